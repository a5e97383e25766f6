/- Joined texts: MembA, GetP, MembB, MembC, LossA, StoreA, StoreB, InsA, InsB, InsC, StoreC, StoreD. -/
import Derived.Test.YtncjbjlmgnjhiaaGreatJC3
import Derived.Test.YtncjbjlmgnjhiaaGreatJC4
import Derived.Test.YtncjbjlmgnjhiaaGreatJC5
import Derived.Test.YtncjbjlmgnjhiaaGreatJC6
import Derived.WalkKit
import Derived.RegionTactic
import Derived.Deep.RegionLaw
import Derived.Lib.Overlaps
import Derived.Shelf.Spec.SlicesInsert
namespace Go.Proofs.YtncjbjlmgnjhiaaGreat.VM
open Go
set_option linter.unusedVariables false
set_option linter.unusedSimpArgs false
attribute [local irreducible] wq wqL wqD wqE wqO Th Bk EndR
set_option maxHeartbeats 8000000
theorem QG (H : Heap) (s k : Nat) (hs : s ≤ 65535) (hk : k ≤ 1048575) : Call Tryz.prog 204 [.int .i64 s, .int .i64 k] H (.tup [.agg [.int .i64 (DR s k : Nat), .int .i64 (GI s k : Nat)], .int .i64 0]) H := by
 refine AQ fit mixed Tryz.func204 rfl rfl rfl (by kernel_rfl) rfl fun hM => ?_
 have w0 := AG (n := k) (by omega)
 have w1 : IntKind.i64.wrap (64 + ((DQ s k 16321 : Nat) : Int)) = ((DR s k : Nat) : Int) := by
  have h1 := Fo (s := s) (k := k) (b := 16321) (by decide)
  unfold DR
  rw [wrap_i64 (by omega) (by omega)]; omega
 have hd1 : DF s k = true := by simp only [DF, Bool.and_eq_true, within_iff]; omega
 have hd2 : DF s (k + 1 : Nat) = true := by simp only [DF, Bool.and_eq_true, within_iff]; omega
 have d1 : ((k : Int) == 1048576) = false := by simp; omega
 refine AO (AK ?_)
 refine Aj (cs := [.int .i64 0, .int .i64 0]) T80 rfl fun b1 H1 hM => ?_
 have c1 := Nu H1 s k
 rw [hd1] at c1
 have c2 := Jc H1 s k 16321 hd1 (by decide) (by decide)
 have c3 : Call Tryz.prog 188 [.int .i64 s, .int .i64 ((k : Int) + 1), .int .i64 58983] H1 (.tup [.int .i64 (GI s k : Nat), .int .i64 0]) H1 := Jc H1 s (k + 1) 58983 hd2 (by decide) (by decide)
 clear hs hk hd1 hd2
 refine goM ?_
 refine AA c1 ?_
 refine goM ?_
 refine AA c2 ?_
 refine goM ?_
 refine AA c3 ?_
 refine goM ?_
 refine AM T80 fun H2 hM => ?_
 refine goM ?_
 exact An ⟨rfl, hM.pre⟩
theorem SU (H : Heap) (s k : Nat) (hs : s ≤ 65535) (hk : k ≤ 7) : Call Tryz.prog 155 [.int .i64 s, .int .i64 k] H (.tup [.agg [.int .i64 (DR s (40000 + 2 * k) : Nat), .int .i64 (GI s (40000 + 2 * k) : Nat)], .int .i64 0]) H := by
 refine AQ fit mixed Tryz.func155 rfl rfl rfl (by kernel_rfl) rfl fun hM => ?_
 obtain ⟨q, hq⟩ : ∃ q, 40000 + 2 * k = q := ⟨_, rfl⟩
 have w0 : IntKind.i64.wrap (2 * (k : Int)) = ((2 * k : Nat) : Int) := by rw [show 2 * (k : Int) = ((2 * k : Nat) : Int) by omega]; exact Am (by omega)
 have w1 : IntKind.i64.wrap (40000 + ((2 * k : Nat) : Int)) = (q : Int) := by rw [wrap_i64 (by omega) (by omega)]; omega
 rw [hq]
 refine AO (AK ?_)
 refine Aj (cs := [.int .i64 0, .int .i64 0]) T80 rfl fun b1 H1 hM => ?_
 have c1 := Hi H1 k
 rw [within_iff.2 ⟨by omega, by omega⟩] at c1
 have c3 := QG H1 s q hs (by omega)
 clear hs hk hq
 refine goM ?_
 refine AA c1 ?_
 refine goM ?_
 refine AA c3 ?_
 refine goM ?_
 refine AM T80 fun H2 hM => ?_
 refine goM ?_
 exact An ⟨rfl, hM.pre⟩
theorem UZ {s f k n : Nat} (h : k < n) : ((List.range k).map (initK s f) ++ List.replicate (n - k) 0).set k (initK s f k) = (List.range (k + 1)).map (initK s f) ++ List.replicate (n - (k + 1)) 0 := by
 rw [List.set_append_right _ _ (by simp)]
 have h1 : n - k = (n - (k + 1)) + 1 := by omega
 rw [h1, List.replicate_succ]
 simp [List.range_succ]
theorem gB (H : Heap) (i h s f : Nat) (hi : 1 ≤ i ∧ i ≤ 3) (hh : 1 ≤ h ∧ h ≤ 3) (hs : s ≤ 65535) (hf : f ≤ 1048560) :
  ∃ w H', Call Tryz.prog 154 [.agg [.int .i64 i, .int .i64 h], .int .i64 s, .int .i64 f] H w H' ∧ ∃ u, w = .tup [u, .int .i64 0] ∧ Mem H H' [.own 1 AH u (JI i h s f)] := by
 have hsm : BL (i : Int) (h : Int) = true := by simp only [BL, Bool.and_eq_true, within_iff]; omega
 have hsmall : BA i h ≤ 16 := by have := Cr hi.2 hh.2; unfold BA; omega
 obtain ⟨n, hn⟩ : ∃ n, BA i h = n := ⟨_, rfl⟩
 unfold JI
 rw [hn] at hsmall ⊢
 have hdm : ∀ k : Nat, k ≤ 16 → DF (s : Int) ((f + k : Nat) : Int) = true := fun k hk => by simp only [DF, Bool.and_eq_true, within_iff]; omega
 have hd0 : DF (s : Int) (f : Int) = true := hdm 0 (by omega)
 have d1 : decide ((f : Int) > 1048560) = false := decide_eq_false (by omega)
 refine Ao fit mixed Tryz.func154 rfl rfl rfl (by kernel_rfl) fun hM => ?_
 refine AO (AK ?_)
 refine Ax T23 fun b1 H1 hM => ?_
 have c0 := MY H1 i h
 rw [hsm] at c0
 have c1 := Nu H1 s f
 rw [hd0] at c1
 have c2 := On H1 i h hi.2 hh.2
 rw [hn] at c2
 clear hsm hi hh hd0
 refine goM ?_
 refine AA c0 ?_
 refine goM ?_
 refine AA c1 ?_
 refine goM ?_
 refine AA c2 ?_
 clear c0 c1 c2 d1
 refine goM ?_
 refine Vl 1 AH T27 rfl T3 (n := n) (z := 0) rfl rfl rfl rfl rfl ⟨by show (8 : Int) * _ ≤ _; omega, by omega⟩ fun v H2 hM => ?_
 have hvl := (hM.sl .here).len T27 rfl
 rw [List.length_replicate] at hvl
 refine goM ?_
 refine AT (fun m ρ hp => ∃ k : Nat, k ≤ n ∧ m = n - k ∧ Mem H hp [.own 1 AH v ((List.range k).map (initK s f) ++ List.replicate (n - k) 0), .box b1 [.int .i64 i, .int .i64 h]] ∧ ρ 1 = .int .i64 s ∧ ρ 2 = .int .i64 f ∧ ρ 8 = v ∧ ρ 29 = .int .i64 (n : Int) ∧ ρ 30 = .int .i64 (k : Nat)) ⟨0, Nat.zero_le _, rfl, hM, rfl, rfl, rfl, rfl, rfl⟩ ?_
 clear hM
 rintro _ ρ hp ⟨k, hk, rfl, hM, h1, h2, h8, h29, h30⟩
 refine goM ?_
 refine AE (fun hb => ?_) (fun hb => ?_)
 ·have hk' : k < n := by simpa using hb
  clear hb
  obtain ⟨b3, hi3, put1⟩ := hM.elem .here T27 rfl T3 rfl (k := k) (by simp; omega)
  obtain ⟨H3, st1, hM1⟩ := put1 (.int .i64 (initK s f k)) _ rfl rfl rfl
  rw [UZ hk'] at hM1
  have hw := AG (n := k) (by omega)
  have w1 : IntKind.i64.wrap ((f : Int) + (k : Int)) = ((f + k : Nat) : Int) := by rw [← Int.natCast_add]; exact Am (by omega)
  have c4 := JB hp s (f + k) (hdm k (by omega))
  have w2 : IntKind.i64.wrap (((Db s (f + k) : Nat) : Int) - 32768) = initK s f k := by
   have := Ho s (f + k)
   unfold initK
   exact wrap_i64 (by omega) (by omega)
  clear put1 hM hdm hs hf
  refine goM ?_
  refine AA c4 ?_
  refine goM ?_
  refine Dc st1 ?_
  refine goM ?_
  exact ⟨n - (k + 1), by omega, k + 1, hk', rfl, hM1, by simp [AD, AB, *]⟩
 ·have hk' : k = n := by have : ¬ k < n := by simpa using hb
                         omega
  subst hk'
  clear hb hdm
  rw [Nat.sub_self, List.replicate_zero, List.append_nil] at hM
  refine goM ?_
  exact An ⟨v, rfl, hM.Ea⟩
theorem wrap_u8 (n : Int) : IntKind.u8.wrap n = n % 256 := by
 unfold IntKind.wrap
 simp only [IntKind.bits, IntKind.signed, Bool.false_and, Bool.false_eq_true, if_false, Int.reducePow]
theorem wrap_u32 (n : Int) : IntKind.u32.wrap n = n % 4294967296 := by
 unfold IntKind.wrap
 simp only [IntKind.bits, IntKind.signed, Bool.false_and, Bool.false_eq_true, if_false, Int.reducePow]
theorem bC (x : Int) (j : Nat) : 0 ≤ Ds x j ∧ Ds x j < 256 := by unfold Ds; rw [wrap_u8]; omega
theorem Yu (x : Int) : Ds x 0 = x % 256 := by
 unfold Ds; rw [wrap_u8, Int.fdiv_eq_ediv_of_nonneg _ (Int.pow_nonneg (by decide))]
 rw [show (2 : Int) ^ min (8 * 0) IntKind.i64.bits = 1 by decide, Int.ediv_one]
theorem eJ (x : Int) : Ds x 1 = x / 256 % 256 := by
 unfold Ds; rw [wrap_u8, Int.fdiv_eq_ediv_of_nonneg _ (Int.pow_nonneg (by decide))]
 rw [show (2 : Int) ^ min (8 * 1) IntKind.i64.bits = 256 by decide]
def okB (bs : List Int) : Prop := ∀ b ∈ bs, 0 ≤ b ∧ b < 256
theorem HN (x : Int) (k : Nat) : okB (Bm x k) := fun b hb => by
 obtain ⟨j, _, rfl⟩ := List.mem_map.1 hb
 exact bC x j
theorem GJ {a b : List Int} (h : okB a) (k : okB b) : okB (a ++ b) := fun x hx => (List.mem_append.1 hx).elim (h x) (k x)
theorem ZH (xs : List Int) : okB (Ch xs) := fun b hb => by
 obtain ⟨x, _, h⟩ := List.mem_flatMap.1 hb
 exact HN x 4 b h
def numN : List Int → Int
 | [] => 0
 | b :: bs => numN bs * 256 + b
theorem OK {x : Int} (h0 : 0 ≤ x) (h : x < 256) : Ds x 0 = x := by
 rw [Yu]; omega
theorem Pt (a b : List Int) : Ch (a ++ b) = Ch a ++ Ch b := by simp [Ch]
theorem RN (ws vs : List Int) (r m t : Int) : MP ws vs r m t = (Bm ws.length 1 ++ Ch (ws ++ (vs ++ [r, m]))) ++ [Ds t 0] := by
 unfold MP
 rw [Pt, Pt]
 have h1 : Ch [r, m] = Bm r 4 ++ Bm m 4 := by simp [Ch]
 have h2 : Bm t 1 = [Ds t 0] := rfl
 rw [h1, h2]
 simp only [List.append_assoc]
theorem Vv (ws vs : List Int) (r m t : Int) : okB (MP ws vs r m t) := by
 rw [RN]
 exact GJ (GJ (HN _ _) (ZH _)) (HN t 1)
theorem QD {ws vs : List Int} {r m t : Int} (h : vs.length = ws.length) : (MP ws vs r m t)[9 + 8 * ws.length]? = some (Ds t 0) := by
 rw [RN, List.getElem?_append_right (show (Bm (ws.length : Int) 1 ++ Ch (ws ++ (vs ++ [r, m]))).length ≤ 9 + 8 * ws.length by simp only [List.length_append, CD, DJ, List.length_cons, List.length_nil]; omega)]
 have : 9 + 8 * ws.length - (Bm (ws.length : Int) 1 ++ Ch (ws ++ (vs ++ [r, m]))).length = 0 := by
  simp only [List.length_append, CD, DJ, List.length_cons, List.length_nil]; omega
 rw [this]; rfl
theorem Ma {bs : List Int} (ho : okB bs) {i : Nat} {b : Int} (h : bs[i]? = some b) : ((strOf bs)[i]?).map (fun c => V.int .u8 c.toNat) = some (.int .u8 b) := by
 have hi := (List.getElem?_eq_some_iff.1 h).1
 have hb := ho b (List.mem_of_getElem? h)
 have e : (strOf bs)[i]? = some (UInt8.ofNat b.toNat) := by
  have hs : i < (strOf bs).size := by rw [DW]; exact hi
  rw [getElem?_pos (strOf bs) i hs]
  have : (strOf bs)[i] = (bs.map fun n => UInt8.ofNat n.toNat)[i]'(by simpa using hi) := by
   show (strOf bs).data[i] = _
   simp [strOf]
  rw [this, List.getElem_map]
  rw [(List.getElem?_eq_some_iff.1 h).2]
 rw [e]
 simp only [Option.map_some, Option.some.injEq, V.int.injEq, true_and]
 have : (UInt8.ofNat b.toNat).toNat = b.toNat := by
  rw [UInt8.toNat_ofNat']; omega
 rw [this]; omega
theorem PX (bs : List Int) (l h : Nat) : (strOf bs).extract l h = strOf ((bs.drop l).take (h - l)) := by
 apply ByteArray.ext
 rw [ByteArray.data_extract]
 simp only [strOf]
 apply Array.ext'
 simp [List.map_take, List.map_drop, List.extract_eq_take_drop]
theorem ED {ρ : Rho} {H : Heap} {x y : Operand} {bs : List Int} {k : IntKind} {n : Int} (i : Nat) {b : Int} (hx : ρ.ev x = some (.str (strOf bs))) (hy : ρ.ev y = some (.int k n)) (hn : n = i) (ho : okB bs) (h : bs[i]? = some b) : CP T ρ H (.index 9 x y) (.int .u8 b) H := by
 subst hn
 refine CB rfl ?_
 simp only [pureOp, T9, hx, hy]
 rw [if_pos (by omega), Int.toNat_natCast]
 exact Ma ho h
theorem EZ {ρ : Rho} {H : Heap} {x : Operand} {lo hi : Option Operand} {bs : List Int} {vl vh : Option V} (l h : Nat) (hx : ρ.ev x = some (.str (strOf bs))) (h1 : optEv ρ.ev lo = some vl) (h2 : optEv ρ.ev hi = some vh) (hl : boundV vl 0 h = some l) (hh : boundV vh bs.length bs.length = some h) : CP T ρ H (.slice 9 x lo hi none) (.str (strOf ((bs.drop l).take (h - l)))) H := by
 refine CB rfl ?_
 have h3 : optEv ρ.ev none = some none := rfl
 simp only [pureOp, T9, hx, h1, h2, h3, Rb, DW, hh, hl, PX]
theorem DG {k : IntKind} {n : Int} {m d : Nat} (i : Nat) (h : n = i) (hi : i ≤ m) : boundV (some (.int k n)) d m = some i := by
 subst h
 simp only [boundV]
 rw [if_pos ⟨by omega, by omega⟩, Int.toNat_natCast]
theorem HV (bs : List Int) : builtinP T .len [9] [.str (strOf bs)] = some (.int .i64 (bs.length : Int)) := by
 simp only [builtinP, T9, DW]
theorem Ru (x : Int) : IntKind.u8.wrap x = Ds x 0 := by unfold Ds; simp [Int.fdiv_one]
theorem Lr (H : Heap) (w v : V) (ws vs : List Int) (r m t : Int) (hw : Sl 1 AH H w ws) (hv : Sl 1 AH H v vs) (hm : CT ws vs r m t = true) : Call Tryz.prog 150 [.agg (Cb w v r m t)] H (.tup [.str (strOf (MP ws vs r m t)), .int .i64 0]) H := by
 obtain ⟨hvw, hvv, hlv, hlw1, _, _, _⟩ := Bo hm
 have hlw := BP hvw
 obtain ⟨n, hn⟩ : ∃ n, ws.length = n := ⟨_, rfl⟩
 rw [RN, hn]
 rw [hn] at hlv hlw hlw1
 obtain ⟨xs, hxs⟩ : ∃ xs, ws ++ (vs ++ [r, m]) = xs := ⟨_, rfl⟩
 have hxl : xs.length = 2 * n + 2 := by rw [← hxs]; simp only [List.length_append, List.length_cons, List.length_nil]; omega
 rw [hxs]
 have hfl : [ws, vs, [r, m]].flatten = xs := by rw [← hxs]; simp
 have s1 := hw.cells
 have s2 := hv.cells
 have bn := Ru (n : Int)
 have bt := Ru t
 refine AQ fit mixed Tryz.func150 rfl rfl rfl (by kernel_rfl) rfl fun hM => ?_
 refine AO (AK ?_)
 refine Ax T82 fun b1 H1 hM => ?_
 have c0 := NJ H1 w v ws vs r m t (hw.mono hM.pre) (hv.mono hM.pre) (by omega) (by omega)
 rw [hm] at c0
 have hlen := (hw.mono hM.pre).len T27 rfl
 rw [hn] at hlen
 clear hm hvw hvv
 refine goM ?_
 refine AA c0 ?_
 refine goM ?_
 refine Aa EO [Ds n 0] [.int .u8 (Ds n 0)] T68 rfl T5 rfl (Cells.one (sz := 1) rfl rfl) (by decide) fun e1 H2 hM => ?_
 refine goM ?_
 refine Aa AH [r, m] [.int .i64 r, .int .i64 m] T27 rfl T3 rfl (Fc (R := AH) (fun x => [V.int .i64 x]) (fun x => ⟨rfl, rfl⟩) [r, m]) (by decide) fun e2 H3 hM => ?_
 have s3 := (hM.sl .here).cells
 refine Aa ZJ [w, v, e2] [w, v, e2] QX rfl T27 rfl (Fc (R := ZJ) (fun x => [x]) (fun x => ⟨rfl, rfl⟩) [w, v, e2]) (by decide) fun e3 H4 hM => ?_
 have hw4 := hw.mono hM.pre
 have hv4 := hv.mono hM.pre
 have he4 := hM.sl (.there .here)
 obtain ⟨e4, H5, c1, m1⟩ := aJ H4 e3 [w, v, e2] [ws, vs, [r, m]] (2 * n + 2) (hM.sl .here) rfl (by simp) (fun k u x hu hx => by
  match k, hu, hx with
  | 0, hu, hx => cases hu; cases hx; exact hw4
  | 1, hu, hx => cases hu; cases hx; exact hv4
  | 2, hu, hx => cases hu; cases hx; exact he4) (by rw [hfl, hxl]) (by omega) (by omega)
 rw [hfl] at m1
 clear hw4 hv4 he4 hw hv
 refine goM ?_
 refine AA c1 ?_
 replace hM := hM.BH m1
 clear c1 m1
 have hlx := (hM.sl .here).len T27 rfl
 rw [hxl] at hlx
 replace hM : Mem H H5 [.own 1 AH e4 xs, .own 1 EO e1 (Bm n 1 ++ Ch (xs.take 0)), .box b1 (Cb w v r m t)] := hM.Ea
 refine goM ?_
 refine AT (fun c ρ hp => ∃ (k : Nat) (u : V), k ≤ 2 * n + 2 ∧ c = 2 * n + 2 - k ∧ Mem H hp [.own 1 AH e4 xs, .own 1 EO u (Bm n 1 ++ Ch (xs.take k)), .box b1 (Cb w v r m t)] ∧ ρ 1 = .ptr b1 0 ∧ ρ 4 = u ∧ ρ 27 = e4 ∧ ρ 28 = .int .i64 ((2 * n + 2 : Nat) : Int) ∧ ρ 29 = .int .i64 (k : Int)) ⟨0, e1, Nat.zero_le _, rfl, hM, rfl, rfl, rfl, rfl, rfl⟩ ?_
 clear hM
 rintro _ ρ hp ⟨k, u, hk, rfl, hM, g1, g4, g27, g28, g29⟩
 refine goM ?_
 refine AE (fun hb => ?_) (fun hb => ?_)
 ·have hk' : k < 2 * n + 2 := by simp at hb; omega
  clear hb
  obtain ⟨x, hx⟩ : ∃ x, xs[k]? = some x := ⟨xs[k]'(by omega), by simp⟩
  obtain ⟨b2, o2, _, hi2, rfl, _, hlo2, _⟩ := (hM.sl .here).get T27 rfl T3 rfl hx
  have ho2 := AF T3 rfl hlo2
  have hsn := KX hx
  obtain ⟨u', H6, c2, m2⟩ := iE H hp _ _ u (Bm n 1 ++ Ch (xs.take k)) x hM (.there .here) (by simp only [List.length_append, CD, DJ, List.length_take]; omega)
  rw [List.append_assoc, ← hsn] at m2
  have hw2 := AG (n := k) (by omega)
  clear hlo2 hsn hx
  refine goM ?_
  refine AA c2 ?_
  clear hM c2
  refine goM ?_
  exact ⟨2 * n + 2 - (k + 1), by omega, k + 1, u', hk', rfl, m2, by simp [AD, AB, *]⟩
 ·have hk' : k = 2 * n + 2 := by simp at hb; omega
  subst hk'
  clear hb
  rw [List.take_of_length_le (by omega)] at hM
  obtain ⟨bs, hbs⟩ : ∃ bs, Bm n 1 ++ Ch xs = bs := ⟨_, rfl⟩
  have hbl : bs.length = 1 + 4 * (2 * n + 2) := by rw [← hbs]; simp only [List.length_append, CD, DJ]; omega
  rw [hbs] at hM ⊢
  clear hbs
  refine goM ?_
  refine Aa EO [Ds t 0] [.int .u8 (Ds t 0)] T68 rfl T5 rfl (Cells.one (sz := 1) rfl rfl) (by decide) fun e5 H6 hM => ?_
  refine goM ?_
  refine Bg (hM.sl .here) (xs := bs) (hh := .there (.there .here)) (hb := by rw [hbl]; simp only [List.length_cons, List.length_nil]; omega) fun u2 H7 hM => ?_
  refine BC (NU eLk (hM.sl (.there (.there .here)))) ?_
  refine goM ?_
  exact An ⟨rfl, hM.pre⟩
theorem RC (H : Heap) (c : Cfg) (rv : V) (id : Int) (hr : Rows H rv c.rows) (hc : Al c = true) (hid : 0 ≤ id ∧ id < c.m) :
  ∃ w H', Call Tryz.prog 98 [.agg (BJ c rv), .int .i64 id] H w H' ∧ ∃ u1 u2, w = .tup [.agg (Yv u1 u2 (FB c id) (firstM c id) 0 0), .str (strOf (KO c id)), .int .i64 0] ∧ Mem H H' [.own 1 AH u2 (FC c), .own 1 AH u1 (Dl c id)] := by
 have hfit := KP hc id
 simp only [BI, Bool.and_eq_true] at hfit
 obtain ⟨hchk, _⟩ := hfit
 obtain ⟨hm2, hloss, hseed, _⟩ := AX hc
 obtain ⟨hs, hr1, hr8, hrok⟩ := Ca hloss
 obtain ⟨a, b, ha, hb, ha1, ha3, hb1, hb3⟩ := JW hs
 have h16 := Ra ha3 hb3
 obtain ⟨s, hse⟩ : ∃ s : Nat, c.seed = s := ⟨c.seed.toNat, by omega⟩
 obtain ⟨d, hd⟩ : ∃ d : Nat, id = d := ⟨id.toNat, by omega⟩
 have hWl : (Dl c id).length = BA a b := by unfold Dl; rw [ha, hb]; simp only [Int.toNat_natCast]; exact Jg _ _ _ _
 have hZr : FC c = List.replicate (BA a b) 0 := by unfold FC; rw [ha, hb]; simp only [Int.toNat_natCast]
 have hW' : JI a b s (50000 + 16 * d) = Dl c id := by unfold Dl; rw [ha, hb, hse, hd]; simp only [Int.toNat_natCast]
 have hR' : ((DR s (40000 + 2 * d) : Nat) : Int) = FB c id := by unfold FB; rw [hse, hd]; simp only [Int.toNat_natCast]
 have hM' : ((GI s (40000 + 2 * d) : Nat) : Int) = firstM c id := by unfold firstM; rw [hse, hd]; simp only [Int.toNat_natCast]
 have hS' : MP (Dl c id) (FC c) (FB c id) (firstM c id) 0 = KO c id := rfl
 have w0 : IntKind.i64.wrap (c.m - 1) = c.m - 1 := wrap_i64 (by omega) (by omega)
 have w1 : IntKind.i64.wrap (16 * id) = 16 * id := wrap_i64 (by omega) (by omega)
 have w2 : IntKind.i64.wrap (50000 + 16 * id) = ((50000 + 16 * d : Nat) : Int) := by rw [wrap_i64 (by omega) (by omega)]; omega
 have lrow : ∀ r ∈ c.rows, r.1.length ≤ 2 ^ 47 := fun rr hrr => by
  have := hrok rr hrr
  simp only [Dp, Bool.and_eq_true] at this
  have := BP (CC this.1).2
  omega
 generalize Dl c id = W at *
 generalize FC c = Z at *
 generalize FB c id = r at *
 generalize firstM c id = m at *
 generalize KO c id = S at *
 refine Ao fit mixed Tryz.func98 rfl rfl rfl (by kernel_rfl) fun hM => ?_
 refine AO (AK ?_)
 refine Ax T26 fun b1 H1 hM => ?_
 refine Aj (cs := Dr) T84 rfl fun b2 H2 hM => ?_
 have c1 := Dw H2 c rv (hr.mono hM.pre) (by omega) lrow
 rw [hc] at c1
 have c2 := IV H2 b1 c.m id (by have hrow := hM.row (.there .here); unfold Heap.loadN; rw [hrow]; rfl)
 rw [w0, within_iff.2 ⟨hid.1, by omega⟩] at c2
 obtain ⟨_, H3, c3, u1, rfl, m3⟩ := gB H2 a b s (50000 + 16 * d) ⟨ha1, ha3⟩ ⟨hb1, hb3⟩ (by omega) (by omega)
 rw [hW'] at m3
 rw [← ha, ← hb, ← hse] at c3
 have c4 := SU H3 s d (by omega) (by omega)
 rw [hR', hM', ← hse, ← hd] at c4
 have s3 := m3.sl .here
 have hlen := s3.len T27 rfl
 rw [hWl] at hlen
 have t1 := s3.cells
 have t2 := s3.two
 clear hid hm2 hloss hseed hs hr1 hr8 hrok ha hb ha1 ha3 hb1 hb3 hse hd hW' hR' hM' hWl lrow
 refine goM ?_
 refine AA c1 ?_
 refine goM ?_
 refine AA c2 ?_
 refine goM ?_
 refine AA c3 ?_
 replace hM := hM.BH m3
 refine goM ?_
 refine AA c4 ?_
 refine goM ?_
 refine Aj (cs := [.int .i64 0, .int .i64 0]) T80 rfl fun b3 H4 hM => ?_
 refine AM T80 fun H5 hM => ?_
 refine goM ?_
 refine Qf 1 AH T27 rfl T3 (n := BA a b) (z := 0) rfl rfl rfl rfl rfl ⟨by show (8 : Int) * _ ≤ _; omega, by omega⟩ fun u2 H6 hM => ?_
 rw [← hZr] at hM
 have t3 := (hM.sl .here).cells
 refine goM ?_
 refine IZ (cs := Ay) T82 rfl fun b4 H7 hM => ?_
 refine DT T82 fun H8 hM => ?_
 have c5 := Lr H8 u1 u2 W Z r m 0 (hM.slG) (hM.slG) hchk
 rw [hS'] at c5
 refine goM ?_
 refine AA c5 ?_
 refine goM ?_
 refine AM T84 fun H9 hM => ?_
 refine goM ?_
 exact CI ⟨_, _, rfl, hM.Ea⟩
theorem NH (H : Heap) (c : Cfg) (rv : V) (id : Int) (hr : Rows H rv c.rows) (hl : c.rows.length ≤ 2 ^ 47) (hxl : ∀ r ∈ c.rows, r.1.length ≤ 2 ^ 47) (hb : (Al c && within id 0 (IntKind.i64.wrap (c.m - 1))) = false) :
  Call Tryz.prog 98 [.agg (BJ c rv), .int .i64 id] H (.tup [.agg Dr, .str (strOf []), .int .i64 2000]) H := by
 refine AQ fit mixed Tryz.func98 rfl rfl rfl (by kernel_rfl) rfl fun hM => ?_
 refine AO (AK ?_)
 refine Ax T26 fun b1 H1 hM => ?_
 refine Aj (cs := Dr) T84 rfl fun b2 H2 hM => ?_
 have c1 := Dw H2 c rv (hr.mono hM.pre) hl hxl
 have c2 := IV H2 b1 c.m id (by have hrow := hM.row (.there .here); unfold Heap.loadN; rw [hrow]; rfl)
 obtain ⟨q, hq⟩ : ∃ q, Al c = q := ⟨_, rfl⟩
 rw [hq] at c1 hb
 cases q with
 | false =>
  clear hb hq c2
  refine goM ?_
  refine AA c1 ?_
  refine goM ?_
  refine AM T84 fun H3 hM => ?_
  refine goM ?_
  exact CI ⟨rfl, hM.pre⟩
 | true =>
  rw [Bool.true_and] at hb
  rw [hb] at c2
  clear hb hq
  refine goM ?_
  refine AA c1 ?_
  refine goM ?_
  refine AA c2 ?_
  refine goM ?_
  refine AM T84 fun H3 hM => ?_
  refine goM ?_
  exact CI ⟨rfl, hM.pre⟩
def LG (i h : Nat) (ws : List Int) (r : List Int × Int) : Int := plus (JZ i h ws (Et i h ws r.1)) (IntKind.i64.wrap (0 - r.2))
def JM (i h : Nat) (ws : List Int) (rs : List (List Int × Int)) : Int := rs.foldl (fun a r => plus a (times (LG i h ws r) (LG i h ws r))) 0
theorem OJ {i h : Nat} {ws : List Int} {rs : List (List Int × Int)} {k : Nat} {r : List Int × Int} (hk : rs[k]? = some r) : JM i h ws (rs.take (k + 1)) = plus (JM i h ws (rs.take k)) (times (LG i h ws r) (LG i h ws r)) := by
 unfold JM
 rw [List.take_add_one, hk, List.foldl_append]; rfl
theorem CX {H H' : Heap} (hp : H <+: H') {t b o : Nat} {v : V} (h : loadV T t H b o = some v) : loadV T t H' b o = some v := by
 unfold loadV at h ⊢
 split at h
 ·split at h
  ·rename_i h1
   rw [if_pos h1]
   cases hl : H.loadN b o _ with
   | none => rw [hl] at h; cases h
   | some cs => rw [hl] at h; rw [Bc hp hl]; exact h
  ·rename_i h1
   rw [if_neg h1]
   cases hl : H.loadN b o _ with
   | none => rw [hl] at h; cases h
   | some cs => rw [hl] at h; rw [Bc hp hl]; exact h
 ·cases h
theorem Sv {H : Heap} {b : Nat} {i h : Int} {w : V} (hr : H[b]? = some (.row [.int .i64 i, .int .i64 h, w] true)) : Iq H b i h w := by
 refine ⟨?_, ?_, ?_⟩ <;> (unfold Heap.loadN; rw [hr]; rfl)
theorem bB (H : Heap) (i h : Nat) (w rv : V) (ws : List Int) (rs : List (List Int × Int)) (hw : Sl 1 AH H w ws) (hr : Rows H rv rs) (hf : fits i h ws = true) (hl : Ct i h rs = true) (hsz : ws.length = BA i h) (hi : i ≤ 3) (hh : h ≤ 3) :
  Call Tryz.prog 228 [.agg [.int .i64 i, .int .i64 h], w, rv] H (.tup [.int .i64 (JM i h ws rs), .int .i64 0]) H := by
 obtain ⟨hs, hr1, hr8, hrok⟩ := Ca hl
 have hlw : ws.length ≤ 16 := by rw [hsz]; exact Ra hi hh
 have lrow : ∀ r ∈ rs, r.1.length ≤ 2 ^ 47 := fun rr hrr => by
  have := hrok rr hrr
  simp only [Dp, Bool.and_eq_true] at this
  have := BP (CC this.1).2
  omega
 obtain ⟨n, hn⟩ : ∃ n, rs.length = n := ⟨_, rfl⟩
 have s1 := hw.cells
 refine AQ fit mixed Tryz.func228 rfl rfl rfl (by kernel_rfl) rfl fun hM => ?_
 refine AO (AK ?_)
 refine Ax T23 fun b1 H1 hM => ?_
 have c1 := Gu H1 i h w ws (hw.mono hM.pre) (by omega)
 rw [hf] at c1
 have c2 := Sk H1 i h rv rs (hr.mono hM.pre) (by omega) lrow
 rw [hl] at c2
 have hlen : builtinP T .len [24] [rv] = some (.int .i64 (n : Int)) := by
  obtain ⟨qv, hqv, hql, _⟩ := hr
  have := hqv.len T24 rfl
  rw [hql, hn] at this
  exact this
 clear hf hl hs lrow
 refine goM ?_
 refine AA c1 ?_
 refine goM ?_
 refine AA c2 ?_
 refine goM ?_
 refine Ax gW fun b2 H2 hM => ?_
 refine goM ?_
 refine AT (fun c ρ hp => ∃ (k : Nat) (L : List Res), k ≤ n ∧ c = n - k ∧ Mem H hp (.box b2 [.int .i64 i, .int .i64 h, w] :: L) ∧ ρ 8 = .ptr b2 0 ∧ ρ 9 = .int .i64 (JM i h ws (rs.take k)) ∧ ρ 27 = rv ∧ ρ 28 = .int .i64 (n : Int) ∧ ρ 29 = .int .i64 (k : Int)) ⟨0, _, Nat.zero_le _, rfl, hM, rfl, rfl, rfl, rfl, rfl⟩ ?_
 clear hM c1 c2
 rintro _ ρ hp ⟨k, L, hk, rfl, hM, g8, g9, g27, g28, g29⟩
 refine goM ?_
 refine AE (fun hb => ?_) (fun hb => ?_)
 ·have hk' : k < n := by simpa using hb
  clear hb
  obtain ⟨⟨xs, y⟩, hx⟩ : ∃ x, rs[k]? = some x := ⟨rs[k]'(by omega), by simp⟩
  have hok := hrok _ (List.mem_of_getElem? hx)
  simp only [Dp, Bool.and_eq_true] at hok
  have hsn := OJ (i := i) (h := h) (ws := ws) hx
  obtain ⟨b3, o3, x, hi3, hlo3, _, _, hxs⟩ := hr.at hx
  replace hlo3 := CX hM.pre hlo3
  have hxl := Int.ofNat_inj.1 (CC hok.1).1
  have hw1 := AG (n := k) (by omega)
  clear hx hok
  refine goM ?_
  refine Aj (cs := [.AN, .int .i64 0]) GD rfl fun b4 H3 hM => ?_
  have s2 := hxs.cells
  refine AM GD fun H4 hM => ?_
  obtain ⟨u, H5, c3, m3⟩ := Zw H4 b2 i h w x ws xs (Sv (hM.row (.there .here))) (hw.mono hM.pre) (hxs.mono hM.pre) hsz hi hh hxl
  refine goM ?_
  refine Be c3 (.inl m3.1) ?_
  replace hM := hM.BH m3.mem
  have c4 := Zs H5 b2 i h w u ws (Et i h ws xs) (Sv (hM.row (.there (.there .here)))) (hw.mono hM.pre) m3.sl hsz hi hh (by simp [Et])
  refine goM ?_
  refine AI c4 ?_
  have c5 := HI H5 (JZ i h ws (Et i h ws xs)) (IntKind.i64.wrap (0 - y))
  refine goM ?_
  refine AI c5 ?_
  have c6 := Dh H5 (LG i h ws (xs, y)) (LG i h ws (xs, y))
  have c7 := HI H5 (JM i h ws (rs.take k)) (times (LG i h ws (xs, y)) (LG i h ws (xs, y)))
  rw [← hsn] at c7
  have he : plus (JZ i h ws (Et i h ws xs)) (IntKind.i64.wrap (0 - y)) = LG i h ws (xs, y) := rfl
  rw [he]
  clear c3 c4 c5 he hsn
  refine goM ?_
  refine AA c6 ?_
  refine goM ?_
  refine AA c7 ?_
  refine goM ?_
  exact ⟨n - (k + 1), by omega, k + 1, _, hk', rfl, hM.front (.there (.there .here)), by simp [AD, AB, *]⟩
 ·have hk' : k = n := by have : ¬ k < n := by simpa using hb
                         omega
  subst hk'
  clear hb
  rw [List.take_of_length_le (by omega)] at g9
  refine goM ?_
  exact An ⟨rfl, hM.pre⟩
theorem bH (s : ByteArray) : (s.toList == ByteArray.toList ⟨#[]⟩) = !(decide (1 ≤ s.size)) := by
 have h := Ft (a := s) (b := ⟨#[]⟩)
 rw [GB]
 cases hq : EF s ⟨#[]⟩ with
 | true =>
  have := h.1 hq
  subst this
  rfl
 | false =>
  have hne : ¬ s.size = 0 := fun h0 => by
   have : s = ⟨#[]⟩ := by
    apply ByteArray.ext
    exact Array.eq_empty_of_size_eq_zero h0
   rw [h.2 this] at hq; cases hq
  have : decide (1 ≤ s.size) = true := decide_eq_true (by omega)
  rw [this]; rfl
theorem Ow (s : ByteArray) : builtinP T .len [9] [.str s] = some (.int .i64 (s.size : Int)) := by
 simp only [builtinP, T9]
theorem dG (H : Heap) (s : ByteArray) : Call Tryz.prog 156 [.str s] H (.bool (DX s)) H := by
 refine AQ fit mixed Tryz.func156 rfl rfl rfl (by kernel_rfl) rfl fun hM => ?_
 have e := bH s
 have hl := Ow s
 have e2 : decide ((s.size : Int) ≤ 256) = decide (s.size ≤ 256) := by apply Bool.eq_iff_iff.2; simp; omega
 unfold DX
 obtain ⟨q, hq⟩ : ∃ q, decide (1 ≤ s.size) = q := ⟨_, rfl⟩
 rw [hq] at e ⊢
 clear hq
 cases q
 ·refine goM ?_
  exact AY ⟨rfl, List.prefix_refl _⟩
 ·refine goM ?_
  refine AY ⟨?_, List.prefix_refl _⟩
  simp
theorem CV {H : Heap} {v : V} {es : List Ent} (h : Sl 3 BE H v es) {k : Nat} {e : Ent} (hk : es[k]? = some e) : ∃ b o, idxV T 30 v (k : Int) = some (.ptr b o) ∧ loadV T 63 H b o = some (.agg (Hy e)) ∧ loadV T 3 H b o = some (.int .i64 e.id) ∧ loadV T 9 H b (o + 1) = some (.str e.tx) ∧ loadV T 3 H b (o + 2) = some (.int .i64 e.n) := by
 obtain ⟨b, o, cs, hi, hc, _, hlo, hlc⟩ := h.get T30 rfl T63 rfl hk
 rw [hc] at hlo hlc
 exact ⟨b, o, hi, AZ T63 rfl hlo, AF T3 rfl (hlc 0 _ rfl), AF T9 rfl (hlc 1 _ rfl), AF T3 rfl (hlc 2 _ rfl)⟩
theorem dX (H : Heap) (b o : Nat) (e : Ent) (l0 : loadV T 3 H b o = some (.int .i64 e.id)) (l1 : loadV T 9 H b (o + 1) = some (.str e.tx)) (l2 : loadV T 3 H b (o + 2) = some (.int .i64 e.n)) : Call Tryz.prog 172 [.ptr b o] H (.bool (Gf e)) H := by
 refine AQ fit mixed Tryz.func172 rfl rfl rfl (by kernel_rfl) rfl fun hM => ?_
 have c1 := dG H e.tx
 have h1 : within e.id 0 1024 = (decide (e.id ≥ 0) && decide (e.id ≤ 1024)) := by simp [within]
 have h2 : within e.n 0 8 = (decide (e.n ≥ 0) && decide (e.n ≤ 8)) := by simp [within]
 unfold Gf
 rw [h1, h2]
 obtain ⟨q1, e1⟩ : ∃ q, decide (e.id ≥ 0) = q := ⟨_, rfl⟩
 obtain ⟨q2, e2⟩ : ∃ q, decide (e.id ≤ 1024) = q := ⟨_, rfl⟩
 obtain ⟨q3, e3⟩ : ∃ q, DX e.tx = q := ⟨_, rfl⟩
 obtain ⟨q4, e4⟩ : ∃ q, decide (e.n ≥ 0) = q := ⟨_, rfl⟩
 obtain ⟨q5, e5⟩ : ∃ q, decide (e.n ≤ 8) = q := ⟨_, rfl⟩
 rw [e3] at c1
 rw [e1, e2, e3, e4, e5]
 clear h1 h2
 cases q1 <;> cases q2 <;> cases q3 <;> cases q4
 all_goals refine goM ?_
 all_goals try (refine AA c1 ?_)
 all_goals refine goM ?_
 all_goals exact AY ⟨rfl, List.prefix_refl _⟩
def UX (es : List Ent) (p : Ent → Bool) : Int := if es.findIdx p < es.length then (es.findIdx p : Int) else -1
theorem ME (H : Heap) (v : V) (es : List Ent) (g : Nat) (caps : List V) (p : Ent → Bool) (hx : Sl 3 BE H v es) (hl : es.length ≤ 2 ^ 47) (hg : ∀ e ∈ es, Call Tryz.prog g (.agg (Hy e) :: caps) H (.bool (p e)) H) :
  Call Tryz.prog 176 [v, .fn g caps] H (.int .i64 (UX es p)) H := by
 refine AQ fit mixed Tryz.func176 rfl rfl rfl (by kernel_rfl) rfl fun hM => ?_
 obtain ⟨n, hn⟩ : ∃ n, es.length = n := ⟨_, rfl⟩
 have hlen := hx.len T30 rfl
 rw [hn] at hlen
 obtain ⟨k0, hk0⟩ : ∃ k, es.findIdx p = k := ⟨_, rfl⟩
 have hkn : k0 ≤ n := by rw [← hk0, ← hn]; exact List.findIdx_le_length
 have hres : UX es p = if k0 < n then (k0 : Int) else -1 := by unfold UX; rw [hk0, hn]
 refine goM ?_
 refine AT (fun c ρ h => ∃ k, k ≤ k0 ∧ c = n - k ∧ h = H ∧ ρ 0 = v ∧ ρ 1 = .fn g caps ∧ ρ 7 = .int .i64 (n : Int) ∧ ρ 8 = .int .i64 (k : Int)) ⟨0, Nat.zero_le _, rfl, rfl, rfl, rfl, rfl, rfl⟩ ?_
 clear hM
 rintro _ ρ h ⟨k, hk, rfl, rfl, h0, h1, h7, h8⟩
 refine goM ?_
 refine AE (fun hb => ?_) (fun hb => ?_)
 ·have hk' : k < n := by simpa using hb
  clear hb
  obtain ⟨e, he⟩ : ∃ e, es[k]? = some e := ⟨es[k]'(by omega), by simp⟩
  obtain ⟨b, o, hi, hlo, _⟩ := CV hx he
  have hw := AG (n := k) (by omega)
  have c1 := hg e (List.mem_of_getElem? he)
  have hpe : p e = decide (k = k0) := by
   have hkl : k < es.length := by omega
   have hek : es[k] = e := by rw [List.getElem?_eq_getElem hkl] at he; exact Option.some.inj he
   by_cases hkk : k < k0
   ·have := List.not_of_lt_findIdx (xs := es) (p := p) (i := k) (by omega)
    rw [hek] at this
    rw [this]; exact (decide_eq_false (by omega)).symm
   ·obtain rfl : k = k0 := by omega
    have := List.findIdx_getElem (xs := es) (p := p) (w := by omega)
    rw [decide_eq_true rfl, ← hek]
    simpa [hk0] using this
  rw [hpe] at c1
  clear he hpe hlen
  by_cases hkk : k = k0
  ·rw [decide_eq_true hkk] at c1
   rw [if_pos (by omega), ← hkk] at hres
   rw [hres]
   clear hres hk0 hkk hk hkn
   refine goM ?_
   refine AA c1 ?_
   refine goM ?_
   exact AY ⟨rfl, List.prefix_refl _⟩
  ·rw [decide_eq_false hkk] at c1
   have hk1 : k + 1 ≤ k0 := by omega
   clear hres hk0 hkk
   refine goM ?_
   refine AA c1 ?_
   refine goM ?_
   exact ⟨n - (k + 1), by omega, k + 1, hk1, rfl, rfl, by simp [AD, AB, *]⟩
 ·have hk' : k = n := by have : ¬ k < n := by simpa using hb
                         omega
  clear hb
  rw [if_neg (by omega)] at hres
  rw [hres]
  clear hres hk0
  refine goM ?_
  exact AY ⟨rfl, List.prefix_refl _⟩
theorem aW (H : Heap) (b : Nat) (e : Ent) (s : ByteArray) (hb : H[b]? = some (.row [.str s] true)) : Call Tryz.prog 209 [.agg (Hy e), .ptr b 0] H (.bool (EF e.tx s)) H := by
 refine AQ fit mixed Tryz.func209 rfl rfl rfl (by kernel_rfl) rfl fun hM => ?_
 refine AO (AK ?_)
 have hl0 : loadV T 9 H b 0 = some (.str s) := AU T9 rfl hb rfl
 refine Ax T63 fun b1 H1 hM => ?_
 have hl := CX hM.pre hl0
 have htd := GB e.tx s
 refine goM ?_
 exact AY ⟨rfl, hM.pre⟩
def JH (es : List Ent) (s : ByteArray) : Int := if Bj es s < es.length then (Bj es s : Int) else -1
theorem Yg (H : Heap) (v : V) (es : List Ent) (s : ByteArray) (hx : Sl 3 BE H v es) (hl : es.length ≤ 2 ^ 47) : Call Tryz.prog 157 [v, .str s] H (.int .i64 (JH es s)) H := by
 refine AQ fit mixed Tryz.func157 rfl rfl rfl (by kernel_rfl) rfl fun hM => ?_
 refine AO (AK ?_)
 refine Ax T9 fun b1 H1 hM => ?_
 have c1 := ME H1 v es 209 [.ptr b1 0] (fun e => EF e.tx s) (hx.mono hM.pre) hl (fun e _ => aW H1 b1 e s (hM.row .here))
 have hr : UX es (fun e => EF e.tx s) = JH es s := rfl
 rw [hr] at c1
 refine goM ?_
 refine AA c1 ?_
 refine goM ?_
 exact AY ⟨rfl, hM.pre⟩
def Qa (a b : Int) : Int := if a < b then -1 else if a > b then 1 else 0
theorem Yk (H : Heap) (a : Int) : Call Tryz.prog 237 [.int .i64 a] H (.bool false) H := by
 refine AQ fit mixed Tryz.func237 rfl rfl rfl (by kernel_rfl) rfl fun hM => ?_
 refine goM ?_
 exact AY ⟨rfl, List.prefix_refl _⟩
theorem YH (H : Heap) (a b : Int) : Call Tryz.prog 226 [.int .i64 a, .int .i64 b] H (.int .i64 (Qa a b)) H := by
 refine AQ fit mixed Tryz.func226 rfl rfl rfl (by kernel_rfl) rfl fun hM => ?_
 refine goM ?_
 refine AA (Yk H a) ?_
 refine goM ?_
 refine AA (Yk H b) ?_
 unfold Qa
 by_cases h1 : a < b
 ·have d1 := decide_eq_true h1
  rw [if_pos h1]
  clear h1
  refine goM ?_
  exact AY ⟨rfl, List.prefix_refl _⟩
 ·have d1 := decide_eq_false h1
  rw [if_neg h1]
  clear h1
  by_cases h2 : a > b
  ·have d2 := decide_eq_true h2
   rw [if_pos h2]
   clear h2
   refine goM ?_
   exact AY ⟨rfl, List.prefix_refl _⟩
  ·have d2 := decide_eq_false h2
   rw [if_neg h2]
   clear h2
   refine goM ?_
   exact AY ⟨rfl, List.prefix_refl _⟩
theorem Ya (H : Heap) (e : Ent) (id : Int) : Call Tryz.prog 232 [.agg (Hy e), .int .i64 id] H (.int .i64 (Qa e.id id)) H := by
 refine AQ fit mixed Tryz.func232 rfl rfl rfl (by kernel_rfl) rfl fun hM => ?_
 refine AO (AK ?_)
 refine Ax T63 fun b1 H1 hM => ?_
 refine goM ?_
 refine AA (YH _ _ _) ?_
 refine goM ?_
 exact AY ⟨rfl, hM.pre⟩
def Ii (es : List Ent) (id : Int) : Nat := es.findIdx fun e => decide (e.id ≥ id)
def isN (es : List Ent) (id : Int) : Bool := match es[Ii es id]? with
 | none => false
 | some e => decide (e.id = id)
theorem bE (es : List Ent) (id : Int) : Ii es id ≤ es.length := List.findIdx_le_length
theorem RB {es : List Ent} {id : Int} {k : Nat} {e : Ent} (hk : k < Ii es id) (h : es[k]? = some e) : e.id < id := by
 obtain ⟨hlt, rfl⟩ := List.getElem?_eq_some_iff.1 h
 have := List.not_of_lt_findIdx (xs := es) (p := fun e : Ent => decide (e.id ≥ id)) hk
 simp at this; omega
theorem Vo {es : List Ent} {id : Int} {e : Ent} (h : es[Ii es id]? = some e) : e.id ≥ id := by
 obtain ⟨hlt, rfl⟩ := List.getElem?_eq_some_iff.1 h
 have := List.findIdx_getElem (xs := es) (p := fun e : Ent => decide (e.id ≥ id)) (w := hlt)
 simpa [Ii] using this
theorem bD {es : List Ent} (hs : Bx es) {id : Int} {k : Nat} {e : Ent} (hk : Ii es id ≤ k) (h : es[k]? = some e) : e.id ≥ id := by
 have hlt := (List.getElem?_eq_some_iff.1 h).1
 have hx : es[Ii es id]? = some (es[Ii es id]'(by omega)) := by simp
 have h0 := Vo hx
 rcases Nat.lt_or_eq_of_le hk with h1 | h1
 ·have := hs.up _ _ _ _ h1 hx h
  omega
 ·subst h1
  rw [h] at hx
  cases hx
  omega
theorem aU {i j : Nat} (h : i + j ≤ 1000) : vbin T .shr 71 (.int .u64 ((i + j : Nat) : Int)) (.int .u64 1) = some (.int .u64 (((i + j) / 2 : Nat) : Int)) := by
 simp only [vbin, shiftBin]
 rw [if_neg (by decide)]
 have : (2 : Int) ^ min (Int.toNat 1) IntKind.u64.bits = 2 := by decide
 rw [this, Int.fdiv_eq_ediv_of_nonneg _ (by decide)]
 congr 2
theorem Xp {n : Nat} (h : n ≤ 1000) : IntKind.u64.wrap (n : Int) = n := by
 unfold IntKind.wrap
 simp only [IntKind.bits, IntKind.signed, Bool.false_and, Bool.false_eq_true, if_false, Int.reducePow]
 omega
theorem bX (H : Heap) (v : V) (es : List Ent) (id : Int) (hx : Sl 3 BE H v es) (hs : Bx es) :
  Call Tryz.prog 231 [v, .int .i64 id, .fn 232 []] H (.tup [.int .i64 (Ii es id : Int), .bool (isN es id)]) H := by
 refine AQ fit mixed Tryz.func231 rfl rfl rfl (by kernel_rfl) rfl fun hM => ?_
 obtain ⟨n, hn⟩ : ∃ n, es.length = n := ⟨_, rfl⟩
 have hn64 := hs.len
 have hlen := hx.len T30 rfl
 rw [hn] at hlen hn64
 obtain ⟨l, hl⟩ : ∃ l, Ii es id = l := ⟨_, rfl⟩
 have hln : l ≤ n := by rw [← hl, ← hn]; exact bE es id
 refine goM ?_
 refine AT (fun c ρ h => ∃ i j : Nat, i ≤ l ∧ l ≤ j ∧ j ≤ n ∧ c = j - i ∧ h = H ∧ ρ 0 = v ∧ ρ 1 = .int .i64 id ∧ ρ 2 = .fn 232 [] ∧ ρ 8 = .int .i64 (n : Int) ∧ ρ 9 = .int .i64 (i : Int) ∧ ρ 10 = .int .i64 (j : Int)) ⟨0, n, Nat.zero_le _, hln, Nat.le_refl _, rfl, rfl, rfl, rfl, rfl, rfl, rfl, rfl⟩ ?_
 clear hM
 rintro _ ρ h ⟨i, j, hi, hj, hjn, rfl, rfl, g0, g1, g2, g8, g9, g10⟩
 refine goM ?_
 refine AE (fun hb => ?_) (fun hb => ?_)
 ·have hij : i < j := by simpa using hb
  clear hb
  obtain ⟨m, hm⟩ : ∃ m, (i + j) / 2 = m := ⟨_, rfl⟩
  have hm1 : i ≤ m := by omega
  have hm2 : m < j := by omega
  have w1 : IntKind.i64.wrap ((i : Int) + (j : Int)) = ((i + j : Nat) : Int) := by rw [wrap_i64 (by omega) (by omega)]; omega
  have w2 := Xp (n := i + j) (by omega)
  have hsh := aU (i := i) (j := j) (by omega)
  rw [hm] at hsh
  have w3 : IntKind.i64.wrap (m : Int) = m := Am (by omega)
  have w4 := AG (n := m) (by omega)
  obtain ⟨e, he⟩ : ∃ e, es[m]? = some e := ⟨es[m]'(by omega), by simp⟩
  obtain ⟨b, o, hie, hlo, _⟩ := CV hx he
  have c1 := Ya h e id
  have hlow : decide (Qa e.id id < 0) = decide (m < l) := by
   by_cases hml : m < l
   ·have : e.id < id := RB (by omega) he
    unfold Qa
    rw [if_pos this, decide_eq_true hml]; rfl
   ·have : e.id ≥ id := bD hs (by omega) he
    have : 0 ≤ Qa e.id id := by unfold Qa; rw [if_neg (by omega)]; split <;> omega
    rw [decide_eq_false hml, decide_eq_false (by omega)]
  by_cases hml : m < l
  ·have e2 := decide_eq_true hml
   rw [e2] at hlow
   clear he hm e2 hlen
   repeat (first | (refine Bs ?_; refine BC (EC eLk eLk hsh) ?_) | (refine Bs ?_; refine OE ?_) | (refine Bz ?_; refine Nq ?_) | (refine CG ?_; first | refine BO ?_ | refine At ?_ | refine KU ?_) | (refine CF ?_; first | refine BS ?_ | refine Aw ?_ | refine KJ ?_) | (refine IU ?_; first | refine Gc ?_ | refine IT ?_) | refine AO ?_ | refine AK ?_ | refine Ae (by decide +kernel) ?_ | refine AW ?_ | refine BN ?_ | refine BM ?_ | refine Ah ?_ | refine As ?_ | refine Ag ?_ | refine AR ?_ | refine Ar ?_ | refine Ad ?_ | refine AS ?_ | refine Aq ?_ | refine Ac ?_ | refine AV rfl ?_)
   refine AA c1 ?_
   refine goM ?_
   exact ⟨j - (m + 1), by omega, m + 1, j, hml, hj, hjn, rfl, rfl, by simp [AD, AB, *]⟩
  ·have e2 := decide_eq_false hml
   rw [e2] at hlow
   have hlm : l ≤ m := by omega
   have hmn : m ≤ n := by omega
   clear he hm e2 hlen hml
   repeat (first | (refine Bs ?_; refine BC (EC eLk eLk hsh) ?_) | (refine Bs ?_; refine OE ?_) | (refine Bz ?_; refine Nq ?_) | (refine CG ?_; first | refine BO ?_ | refine At ?_ | refine KU ?_) | (refine CF ?_; first | refine BS ?_ | refine Aw ?_ | refine KJ ?_) | (refine IU ?_; first | refine Gc ?_ | refine IT ?_) | refine AO ?_ | refine AK ?_ | refine Ae (by decide +kernel) ?_ | refine AW ?_ | refine BN ?_ | refine BM ?_ | refine Ah ?_ | refine As ?_ | refine Ag ?_ | refine AR ?_ | refine Ar ?_ | refine Ad ?_ | refine AS ?_ | refine Aq ?_ | refine Ac ?_ | refine AV rfl ?_)
   refine AA c1 ?_
   refine goM ?_
   exact ⟨m - i, by omega, i, m, hi, hlm, hmn, rfl, rfl, by simp [AD, AB, *]⟩
 ·have hij : ¬ i < j := by simpa using hb
  clear hb
  obtain rfl : i = l := by omega
  unfold isN
  rw [hl]
  by_cases hin : i < n
  ·obtain ⟨e, he⟩ : ∃ e, es[i]? = some e := ⟨es[i]'(by omega), by simp⟩
   obtain ⟨b, o, hie, hlo, _⟩ := CV hx he
   have c1 := Ya h e id
   have hd : decide ((i : Int) < (n : Int)) = true := decide_eq_true (by omega)
   have heq : (Qa e.id id == 0) = decide (e.id = id) := by
    unfold Qa
    by_cases h1 : e.id < id
    ·rw [if_pos h1, decide_eq_false (by omega)]; rfl
    ·rw [if_neg h1]
     by_cases h2 : e.id > id
     ·rw [if_pos h2, decide_eq_false (by omega)]; rfl
     ·rw [if_neg h2, decide_eq_true (by omega)]; rfl
   rw [he]
   clear hl hln hi hj hij hin he hlen
   refine goM ?_
   refine AA c1 ?_
   refine goM ?_
   exact An ⟨rfl, List.prefix_refl _⟩
  ·have hd : decide ((i : Int) < (n : Int)) = false := decide_eq_false (by omega)
   rw [List.getElem?_eq_none (by omega)]
   clear hl hln hi hj hij hin hlen
   refine goM ?_
   exact An ⟨rfl, List.prefix_refl _⟩
theorem cX (H : Heap) (v : V) (es : List Ent) (id : Int) (hx : Sl 3 BE H v es) (hs : Bx es) :
  Call Tryz.prog 207 [v, .int .i64 id] H (.tup [.int .i64 (Ii es id : Int), .bool (isN es id)]) H := by
 refine AQ fit mixed Tryz.func207 rfl rfl rfl (by kernel_rfl) rfl fun hM => ?_
 refine goM ?_
 refine AA (bX H v es id hx hs) ?_
 refine goM ?_
 exact An ⟨rfl, List.prefix_refl _⟩
theorem Pf {es : List Ent} (hs : Bx es) {id : Int} (h : isN es id = true) : ∃ e, es[Ii es id]? = some e ∧ e.id = id ∧ DD es id = Ii es id := by
 unfold isN at h
 split at h
 ·cases h
 ·rename_i e he
  have hid : e.id = id := by simpa using h
  refine ⟨e, he, hid, ?_⟩
  have hlt := (List.getElem?_eq_some_iff.1 he).1
  unfold DD
  rw [List.findIdx_eq hlt]
  have hel : es[Ii es id] = e := by rw [List.getElem?_eq_getElem hlt] at he; exact Option.some.inj he
  refine ⟨by rw [hel]; exact decide_eq_true hid, fun j hj => ?_⟩
  have := RB hj (e := es[j]'(by omega)) (by simp)
  simp; omega
theorem Pe {es : List Ent} (hs : Bx es) {id : Int} (h : isN es id = false) : es[DD es id]? = none := by
 rw [List.getElem?_eq_none_iff]
 apply Nat.le_of_not_lt
 intro hlt
 have hx : es[DD es id]? = some (es[DD es id]) := by simp [hlt]
 have hid : (es[DD es id]).id = id := by
  have := List.findIdx_getElem (xs := es) (p := fun e : Ent => decide (e.id = id)) (w := hlt)
  exact of_decide_eq_true this
 have hle : Ii es id ≤ DD es id := by
  apply Nat.le_of_not_lt
  intro h1
  have := RB h1 hx
  omega
 rcases Nat.lt_or_eq_of_le hle with h1 | h1
 ·have hy : es[Ii es id]? = some (es[Ii es id]'(by omega)) := by simp
  have h2 := Vo hy
  have h3 := hs.up _ _ _ _ h1 hy hx
  omega
 ·unfold isN at h
  rw [h1, hx] at h
  simp [hid] at h
theorem XF {es : List Ent} {e : Ent} (h : es[0]? = some e) : okAt es 0 = (Gf e && decide (Bj es e.tx = 0)) := by
 unfold okAt; rw [h]; simp
theorem XE {es : List Ent} {e p : Ent} {k : Nat} (h : es[k + 1]? = some e) (hp : es[k]? = some p) : okAt es (k + 1) = ((Gf e && decide (p.id < e.id)) && decide (Bj es e.tx = k + 1)) := by
 unfold okAt; rw [h]; simp only [hp]
theorem So {es : List Ent} {k : Nat} (hk : k < es.length) (h : okAt es k = false) : Az es = false := by
 rw [Bool.eq_false_iff]; intro hm
 unfold Az at hm
 simp only [Bool.and_eq_true, decide_eq_true_eq, List.all_eq_true, List.mem_range] at hm
 rw [hm.2 k hk] at h; cases h
theorem UW {es : List Ent} {k : Nat} {e : Ent} (h : es[k]? = some e) : JH es e.tx = (Bj es e.tx : Int) := by
 unfold JH
 rw [if_pos ?_]
 apply Nat.lt_of_le_of_lt _ (List.getElem?_eq_some_iff.1 h).1
 apply Nat.le_of_not_lt
 intro hlt
 have := Jf hlt h
 rw [FZ] at this; cases this
theorem IK (H : Heap) (v : V) (es : List Ent) (hx : Sl 3 BE H v es) (hl : es.length ≤ 2 ^ 47) : Call Tryz.prog 112 [v] H (.bool (Az es)) H := by
 refine AQ fit mixed Tryz.func112 rfl rfl rfl (by kernel_rfl) rfl fun hM => ?_
 obtain ⟨n, hn⟩ : ∃ n, es.length = n := ⟨_, rfl⟩
 have hlen := hx.len T30 rfl
 rw [hn] at hlen
 by_cases h64 : 64 < n
 ·have d : decide ((n : Int) > 64) = true := decide_eq_true (by omega)
  have hres : Az es = false := by
   rw [Bool.eq_false_iff]; intro hm
   have := (Cd hm).len
   omega
  rw [hres]
  clear h64 hres
  refine goM ?_
  exact AY ⟨rfl, List.prefix_refl _⟩
 have d : decide ((n : Int) > 64) = false := decide_eq_false (by omega)
 refine goM ?_
 clear d
 refine AT (fun c ρ h => ∃ k : Nat, k ≤ n ∧ c = n - k ∧ h = H ∧ (∀ j, j < k → okAt es j = true) ∧ ρ 0 = v ∧ ρ 8 = .int .i64 (n : Int) ∧ ρ 9 = .int .i64 (k : Int)) ⟨0, Nat.zero_le _, rfl, rfl, by intro j hj; omega, rfl, rfl, rfl⟩ ?_
 clear hM
 rintro _ ρ h ⟨k, hk, rfl, rfl, hgood, g0, g8, g9⟩
 refine goM ?_
 refine AE (fun hb => ?_) (fun hb => ?_)
 ·have hk' : k < n := by simpa using hb
  clear hb
  obtain ⟨e, he⟩ : ∃ e, es[k]? = some e := ⟨es[k]'(by omega), by simp⟩
  obtain ⟨b, o, hie, hlo, l0, l1, l2⟩ := CV hx he
  have c1 := dX h b o e l0 l1 l2
  have c2 := Yg h v es e.tx hx hl
  rw [UW he] at c2
  have hw := AG (n := k) (by omega)
  have hfail := fun hq => So (es := es) (k := k) (by omega) hq
  have hne : (((Bj es e.tx : Nat) : Int) != (k : Int)) = !decide (Bj es e.tx = k) := by
   by_cases hq : Bj es e.tx = k
   ·rw [decide_eq_true hq, hq]; simp
   ·rw [decide_eq_false hq]; simp; omega
  obtain ⟨hN, hhN⟩ : ∃ x, ((Bj es e.tx : Nat) : Int) = x := ⟨_, rfl⟩
  rw [hhN] at c2 hne
  have hnext : okAt es k = true → ∀ j, j < k + 1 → okAt es j = true := fun ho j hj => by
   rcases Nat.lt_or_eq_of_le (Nat.le_of_lt_succ hj) with h1 | h1
   ·exact hgood j h1
   ·subst h1; exact ho
  cases k with
  | zero =>
   have hoe := XF he
   have z0 : decide (((0 : Nat) : Int) > 0) = false := by decide
   obtain ⟨q1, e1⟩ : ∃ q, Gf e = q := ⟨_, rfl⟩
   obtain ⟨q3, e3⟩ : ∃ q, decide (Bj es e.tx = 0) = q := ⟨_, rfl⟩
   rw [e1, e3] at hoe
   rw [e3] at hne
   rw [e1] at c1
   clear e1 e3 hhN hgood he hlo l2 hlen
   cases q1 with
   | false =>
    rw [hfail hoe]
    clear hfail hnext hne
    refine goM ?_
    refine AI c1 ?_
    refine goM ?_
    exact AY ⟨rfl, List.prefix_refl _⟩
   | true =>
    cases q3 with
    | false =>
     rw [hfail hoe]
     clear hfail hnext
     refine goM ?_
     refine AI c1 ?_
     refine goM ?_
     refine AI c2 ?_
     refine goM ?_
     exact AY ⟨rfl, List.prefix_refl _⟩
    | true =>
     have hg := hnext hoe
     clear hfail hnext hoe
     refine goM ?_
     refine AI c1 ?_
     refine goM ?_
     refine AI c2 ?_
     refine goM ?_
     exact ⟨n - 1, by omega, 1, hk', rfl, rfl, hg, by simp [AD, AB, *]⟩
  | succ k =>
   obtain ⟨p, hp⟩ : ∃ p, es[k]? = some p := ⟨es[k]'(by omega), by simp⟩
   obtain ⟨b2, o2, hip, _, m0, _⟩ := CV hx hp
   have hoe := XE he hp
   have z0 : decide (((k + 1 : Nat) : Int) > 0) = true := decide_eq_true (by omega)
   have wk : IntKind.i64.wrap (((k + 1 : Nat) : Int) - 1) = (k : Int) := by rw [wrap_i64 (by omega) (by omega)]; omega
   have hcmp : decide (p.id ≥ e.id) = !decide (p.id < e.id) := by apply Bool.eq_iff_iff.2; simp
   obtain ⟨q1, e1⟩ : ∃ q, Gf e = q := ⟨_, rfl⟩
   obtain ⟨q2, e2⟩ : ∃ q, decide (p.id < e.id) = q := ⟨_, rfl⟩
   obtain ⟨q3, e3⟩ : ∃ q, decide (Bj es e.tx = k + 1) = q := ⟨_, rfl⟩
   rw [e1, e2, e3] at hoe
   rw [e3] at hne
   rw [e1] at c1
   rw [e2] at hcmp
   clear e1 e2 e3 hhN hgood he hp hlo l2 hlen
   cases q1 with
   | false =>
    rw [hfail hoe]
    clear hfail hnext hne hcmp
    refine goM ?_
    refine AI c1 ?_
    refine goM ?_
    exact AY ⟨rfl, List.prefix_refl _⟩
   | true =>
    cases q2 with
    | false =>
     rw [hfail hoe]
     clear hfail hnext hne
     refine goM ?_
     refine AI c1 ?_
     refine goM ?_
     exact AY ⟨rfl, List.prefix_refl _⟩
    | true =>
     cases q3 with
     | false =>
      rw [hfail hoe]
      clear hfail hnext
      refine goM ?_
      refine AI c1 ?_
      refine goM ?_
      refine AI c2 ?_
      refine goM ?_
      exact AY ⟨rfl, List.prefix_refl _⟩
     | true =>
      have hg := hnext hoe
      clear hfail hnext hoe
      refine goM ?_
      refine AI c1 ?_
      refine goM ?_
      refine AI c2 ?_
      refine goM ?_
      exact ⟨n - (k + 1 + 1), by omega, k + 1 + 1, hk', rfl, rfl, hg, by simp [AD, AB, *]⟩
 ·have hk' : k = n := by have : ¬ k < n := by simpa using hb
                         omega
  subst hk'
  have hres : Az es = true := by
   unfold Az
   simp only [Bool.and_eq_true, decide_eq_true_eq, List.all_eq_true, List.mem_range]
   exact ⟨by omega, fun i hi => hgood i (by omega)⟩
  rw [hres]
  clear hb hres hgood
  refine goM ?_
  exact AY ⟨rfl, List.prefix_refl _⟩
end Go.Proofs.YtncjbjlmgnjhiaaGreat.VM
namespace Go.Proofs.YtncjbjlmgnjhiaaGreat.VM
open Go Go.RowKit Go.Lib
set_option linter.unusedVariables false
set_option linter.unusedSimpArgs false
set_option maxHeartbeats 8000000
set_option maxRecDepth 100000 in
theorem Sc (B o n c i B2 o2 c2 : Nat) (w w1 w2 : World) (hi : i < n) (hn : n ≤ 64) (hc : n + 1 ≤ c)
  (hov : ∀ lb cb, (callFunc 210 #[.slice (some ⟨B2, o2, none⟩) 1 c2, .slice (some ⟨B, o + (i + 1) * 3, none⟩) lb cb]).run Tryz.prog w = .ok (.value (.bool false)) w)
  (hcp1 : ∀ ty, (Builtin.copy_ #[30, 30] ty #[.slice (some ⟨B, o + (i + 1) * 3, none⟩) (n - i) (c - (i + 1)), .slice (some ⟨B, o + i * 3, none⟩) (n + 1 - i) (c - i)]).run Tryz.prog w.drew = .ok (.int .i64 (n - i : Nat)) w1)
  (hcp2 : ∀ ty, (Builtin.copy_ #[30, 30] ty #[.slice (some ⟨B, o + i * 3, none⟩) (n + 1 - i) (c - i), .slice (some ⟨B2, o2, none⟩) 1 c2]).run Tryz.prog w1 = .ok (.int .i64 1) w2) :
  Calls Tryz.prog 158 #[.slice (some ⟨B, o, none⟩) n c, .int .i64 i, .slice (some ⟨B2, o2, none⟩) 1 c2] w fun e w' => e = .returned (.slice (some ⟨B, o, none⟩) (n + 1) c) ∧ w' = w2 := by
 have hz2 : ¬ ((i : Int) = (n : Int)) := by omega
 have hw1 : IntKind.i64.wrap ((i : Int) + 1) = (i : Int) + 1 := wrap_i64 (by omega) (by omega)
 have hw2 : IntKind.i64.wrap ((n : Int) + 1) = (n : Int) + 1 := wrap_i64 (by omega) (by omega)
 have hb3 : (i : Int) ≤ (n : Int) + 1 := by omega
 have hin : i ≤ n := by omega
 have hb1 : (0 : Int) ≤ (i : Int) + 1 := by omega
 have hb2 : ¬ (c = i + 1) := by omega
 have hb4 : ¬ (c = i) := by omega
 have htn : ((i : Int) + 1).toNat = i + 1 := by omega
 go_enter Tryz.func158, Tryz.ntmps158
 go_wp2_with (simp only [hov])
 have mixed' := mixed
 go_region_law_o (refine step_copy_runI rfl _ _ 30 30 rfl _ _ (by simp [Act.eval, Act.put]) (by simp [Act.eval, Act.put]) (hcp1 _) ?_)
 go_wp2_with (at_builtin; refine wpList_copy_runI _ rfl _ _ 30 30 rfl _ _ rfl rfl (hcp2 _) ?_)
 go_ret
 exact ⟨rfl, rfl⟩
end Go.Proofs.YtncjbjlmgnjhiaaGreat.VM
namespace Go.Proofs.YtncjbjlmgnjhiaaGreat.VM
open Go
set_option linter.unusedVariables false
set_option linter.unusedSimpArgs false
attribute [local irreducible] wq wqL wqD wqE wqO Th Bk EndR
set_option maxHeartbeats 8000000
def CS (cs ds : List V) (i n : Nat) : List V := cs.take (i * 3) ++ ds ++ (cs.drop (i * 3)).take ((n - i) * 3)
theorem Cells.drop {α : Type} {sz : Nat} {R : List V → α → Prop} {cs : List V} {xs : List α} (h : Cells sz R cs xs) (n : Nat) (hn : n ≤ xs.length) : Cells sz R (cs.drop (n * sz)) (xs.drop n) := by
 refine ⟨by rw [List.length_drop, List.length_drop, h.1, Nat.sub_mul], fun k x hk => ?_⟩
 rw [List.getElem?_drop] at hk
 have := h.2 _ x hk
 rw [List.drop_drop, ← Nat.add_mul]
 exact this
theorem Wt {cs : List V} {es : List Ent} {e : Ent} {i : Nat} (h : At0 3 BE cs es) (hi : i ≤ es.length) : Cells 3 BE (CS cs (Hy e) i es.length) (es.take i ++ e :: es.drop i) := by
 have h1 := h.2.take i hi
 have h2 := h.2.drop i hi
 have e1 : (cs.take (es.length * 3)).take (i * 3) = cs.take (i * 3) := by rw [List.take_take, Nat.min_eq_left (Nat.mul_le_mul_right _ hi)]
 have e2 : (cs.take (es.length * 3)).drop (i * 3) = (cs.drop (i * 3)).take ((es.length - i) * 3) := by rw [List.drop_take, Nat.sub_mul]
 rw [e1] at h1
 rw [e2] at h2
 unfold CS
 rw [List.append_assoc]
 exact h1.app (Cells.cons (x := e) rfl rfl h2)
theorem TY {w : World} {B j : Nat} {cv : Value} (h : w.cell? ⟨B, j, none⟩ = some cv) : ∃ t k, w.shape? B = some (t, k) ∧ j < k := by
 unfold World.cell? at h
 unfold World.shape?
 split at h
 ·rename_i c e fr he
  simp only [Option.isSome_none, Bool.false_eq_true, if_false] at h
  simp only at he
  rw [he]
  exact ⟨e, c.size, rfl, (Array.getElem?_eq_some_iff.1 h).1⟩
 ·cases h
theorem Wf : ∃ q, Tryz.prog.info? 63 = some q ∧ q.size = 3 := by
 obtain ⟨q, z, hq, q1, _⟩ := (fit _ _ T63).info
 exact ⟨q, hq, q1⟩
theorem Nv : Tryz.prog.underlying 30 = some (.slice 63) := (fit _ _ T30).kind
theorem Qu {μ : Mu} {H : Heap} {w : World} (s : Sim μ H w) {b b2 : Nat} {cs ds : List V} {n i c cap2 : Nat} {t2 : Bool} {cu : Value} {x : Loc} (hx : μ b = some x) (hb : H[b]? = some (.row cs true)) (hcs : n * 3 ≤ cs.length) (hi : i < n) (hn : n ≤ 64) (hc : n + 1 ≤ c) (hxn : c * 3 ≤ x.n)
  (hu : VR μ (.slc b2 0 1 cap2 t2 3) cu) (hb2 : H[b2]? = some (.row ds true)) (hds : 3 ≤ ds.length) (hcap2 : 1 ≤ cap2) (hne : b ≠ b2) :
  Calls Tryz.prog 158 #[.slice (some ⟨x.B, x.o, none⟩) n c, .int .i64 i, cu] w fun e w' => ∃ cv μ', e = .returned cv ∧ VR μ' (.slc H.length 0 (n + 1) (n + 1) false 3) cv ∧ Sim μ' (H.set b .dead ++ [Blk.row (CS cs (ds.take 3) i n) true]) w' ∧ Tr μ H w μ' (H.set b .dead ++ [Blk.row (CS cs (ds.take 3) i n) true]) w' := by
 obtain ⟨q, hq, hq3⟩ := Wf
 have hu0 := hu
 simp only [VR] at hu
 obtain ⟨a2, c2, rfl, k1, k2, k3, k45⟩ := hu
 rcases k45 with ⟨_, q2⟩ | ⟨x2, oo, hx2, rfl, k4, k5⟩
 ·omega
 obtain rfl := k5 (by omega)
 obtain ⟨e1, e2⟩ := s.ext b x cs true hx hb
 obtain ⟨f1, f2⟩ := s.ext b2 x2 ds true hx2 hb2
 have hB : x2.B ≠ x.B := s.sole b x _ hx hb rfl b2 x2 _ (fun e => hne e.symm) hx2 hb2 (by simp)
 -- overlaps
 obtain ⟨u2, hu2⟩ := f2 0 (by omega)
 obtain ⟨tA, kA, hsa, hka⟩ := TY hu2
 obtain ⟨u1, hu1⟩ := e2 0 (by omega)
 obtain ⟨tB, kB, hsb, hkb⟩ := TY hu1
 have hfa : w.frozen? ⟨x2.B, x2.o + 0, none⟩ = false := s.free b2 x2 ds hx2 hb2 0
 have hfe : w.frozen? ⟨x2.B, kA, none⟩ = false := by
  have := s.free b2 x2 ds hx2 hb2 (kA - x2.o)
  rwa [show x2.o + (kA - x2.o) = kA by omega] at this
 have hov : ∀ lb cb, (callFunc 210 #[.slice (some ⟨x2.B, x2.o + 0, none⟩) 1 c2, .slice (some ⟨x.B, x.o + (i + 1) * 3, none⟩) lb cb]).run Tryz.prog w = .ok (.value (.bool false)) w := fun lb cb => by
  rw [run_callFunc_extern Tryz.func210 (by kernel_rfl) (by kernel_rfl) (by kernel_rfl) (e := Extern.SlicesOverlaps.overlaps #[30, 30] #[4]) (by kernel_rfl),
   Lib.run_overlaps_apart w 30 4 63 Nv 3 (fun w => by rw [CE hq, hq3]) ⟨x2.B, x2.o + 0, none⟩ ⟨x.B, x.o + (i + 1) * 3, none⟩ 1 c2 lb cb hB tA tB kA kB hsa hsb (by omega) hfa hfe]
  rfl
 -- the first copy
 have hm1 : (i + 1) * 3 ≤ n * 3 := Nat.mul_le_mul_right _ hi
 have hm2 : (n - i) * 3 = n * 3 - i * 3 := Nat.sub_mul ..
 have hm3 : (n + 1) * 3 ≤ c * 3 := Nat.mul_le_mul_right _ hc
 have hm4 : (c - i) * 3 = c * 3 - i * 3 := Nat.sub_mul ..
 have hl : H.loadN b (i * 3) ((n - i) * 3) = some ((cs.drop (i * 3)).take ((n - i) * 3)) := by
  unfold Heap.loadN
  rw [hb]
  simp only
  rw [if_pos (by omega)]
 have hv1 : VR μ (.slc b (i * 3) (n + 1 - i) (n + 1 - i) false 3) (.slice (some ⟨x.B, x.o + i * 3, none⟩) (n + 1 - i) (c - i)) := by
  simp only [VR]
  exact ⟨_, c - i, rfl, Nat.le_refl _, by omega, nofun, .inr ⟨x, i * 3, hx, rfl, by omega, fun _ => rfl⟩⟩
 obtain ⟨ws, g1, g2, g3⟩ := DH (P := Tryz.prog) (n := n - i) (size := 3) s.drew hv1 (by omega) (.inl hl)
 have hwl : ws.size = (n - i) * 3 := by
  have := g2.length
  simp only [Array.length_toList, List.length_take, List.length_drop] at this
  omega
 have hws1 : ∀ v ∈ ws.toList, v.oneCell' = true := fun v hv => by
  obtain ⟨j, hj⟩ := List.mem_iff_getElem?.1 hv
  have hjl := (List.getElem?_eq_some_iff.1 hj).1
  obtain ⟨y, hy⟩ : ∃ y, ((cs.drop (i * 3)).take ((n - i) * 3))[j]? = some y := ⟨_, List.getElem?_eq_getElem (by have := g2.length; omega)⟩
  obtain ⟨u, hu', hr'⟩ := g2.get hy
  rw [hj] at hu'
  cases hu'
  exact eU hr' (g3 _ (List.mem_of_getElem? hy))
 obtain ⟨w1, r1, r2, r3, r4, r5, r6, r7, r8, r9, r10⟩ := El Tryz.prog x.B ws.toList (x.o + (i + 1) * 3) 0 w.drew hws1 (fun j _ hj => by
  have hj' : j < (n - i) * 3 := by rw [← hwl]; simpa using hj
  rw [show x.o + (i + 1) * 3 + j = x.o + ((i + 1) * 3 + j) by omega]
  exact ⟨e2 _ (by omega), s.free b x cs hx hb _⟩)
 have hcp1 : ∀ ty, (Builtin.copy_ #[30, 30] ty #[.slice (some ⟨x.B, x.o + (i + 1) * 3, none⟩) (n - i) (c - (i + 1)), .slice (some ⟨x.B, x.o + i * 3, none⟩) (n + 1 - i) (c - i)]).run Tryz.prog w.drew = .ok (.int .i64 (n - i : Nat)) w1 := fun ty => by
  have hlenOf : (Builtin.lenOf (.slice (some ⟨x.B, x.o + i * 3, none⟩) (n + 1 - i) (c - i))).run Tryz.prog w.drew = .ok (n + 1 - i) w.drew := rfl
  have hmin : Nat.min (n + 1 - i) (n - i) = n - i := Nat.min_eq_right (by omega)
  unfold Builtin.copy_
  simp only [List.getElem?_toArray, List.getElem?_cons_zero, List.getElem?_cons_succ, Av Nv, Sem.run_bind, Result.andThen_ok, hlenOf, Sem.run_pure, CE hq, hq3, hmin]
  rw [g1 w.drew rfl]
  simp only [Result.andThen_ok, r1, Sem.run_bind, Sem.run_pure]
  rfl
 -- behind it
 obtain ⟨sk, tk⟩ := Oo s hb
 obtain ⟨A1, hA1⟩ : ∃ A1, cs.take ((i + 1) * 3) ++ (cs.drop (i * 3)).take ((n - i) * 3) = A1 := ⟨_, rfl⟩
 have hA1l : A1.length = (n + 1) * 3 := by rw [← hA1, List.length_append, List.length_take, List.length_take, List.length_drop]; omega
 have hK : (H.set b Blk.dead).length = H.length := by simp
 have S1 : Sim (μ.put H.length ⟨x.B, x.o + 0, x.n - 0⟩) (H.set b .dead ++ [Blk.row A1 true]) w1 := by
  rw [← hK]
  refine QL sk.drew (s.lt b x hx).2 ?_ r6 r7 (Nat.zero_le _) (by omega) (fun j hj => r5 _ (e2 j hj)) (fun j => by rw [r4]; exact s.free b x cs hx hb j) ?_
  ·intro b' x' k' hx' hk hd
   rcases DV hk with ⟨_, rfl⟩ | ⟨hne', hk'⟩
   ·exact absurd rfl hd
   ·exact s.sole b x _ hx hb rfl b' x' k' hne' hx' hk' hd
  ·intro j v hj
   rw [← hA1] at hj
   by_cases hjl : j < (i + 1) * 3
   ·rw [List.getElem?_append_left (by rw [List.length_take]; omega), List.getElem?_take, if_pos hjl] at hj
    obtain ⟨p1, cv, p2, p3⟩ := s.row b x cs true hx hb j v hj
    refine ⟨p1, cv, ?_, p3⟩
    rw [Nat.add_zero, r3 _ (.inl (by omega))]
    exact p2
   ·rw [List.getElem?_append_right (by rw [List.length_take]; omega), List.length_take, Nat.min_eq_left (by omega)] at hj
    obtain ⟨u, hu', hr'⟩ := g2.get hj
    refine ⟨g3 v (List.mem_of_getElem? hj), u, ?_, hr'⟩
    have := r2 _ _ hu'
    rw [show x.o + (i + 1) * 3 + (0 + (j - (i + 1) * 3)) = x.o + 0 + j by omega] at this
    exact this
 have hlb : b < H.length := (List.getElem?_eq_some_iff.1 hb).1
 have T1 : Tr μ H w (μ.put H.length ⟨x.B, x.o + 0, x.n - 0⟩) (H.set b .dead ++ [Blk.row A1 true]) w1 := by
  refine ⟨Mu.KV _ s.Fl, fun b' x' hx' hno => ?_, fun b' k hk => ?_, by rw [r7]; exact Nat.le_refl _, fun B hB' hno => ?_, by rw [r8]; rfl, by rw [r9]; rfl, by rw [r10]; rfl⟩
  ·by_cases hb' : b' = H.length
   ·subst hb'
    rw [Mu.De] at hx'
    obtain rfl := Option.some.inj hx'
    refine ⟨Nat.le_refl _, .inr ⟨b, x, _, hx, rfl, hb, rfl, ?_⟩⟩
    rw [List.getElem?_append_left (by simp [hlb])]
    exact NV _ hb
   ·rw [Mu.Kc _ hb'] at hx'
    rw [hx'] at hno; cases hno
  ·obtain ⟨k', hk', hle⟩ := JX hb (k := .dead) (by simp [Blk.Le]) b' k hk
   have hlt : b' < H.length := (List.getElem?_eq_some_iff.1 hk).1
   exact ⟨k', by rw [List.getElem?_append_left (by simp [hlt])]; exact hk', hle⟩
  ·rw [r6 B (fun e => hno b x _ hx hb rfl e.symm)]; rfl
 -- the second copy
 have hmu1 : (μ.put H.length ⟨x.B, x.o + 0, x.n - 0⟩) H.length = some ⟨x.B, x.o + 0, x.n - 0⟩ := Mu.De _ _ _
 have hd2 : VR (μ.put H.length ⟨x.B, x.o + 0, x.n - 0⟩) (.slc H.length (i * 3) (n + 1 - i) (n + 1 - i) false 3) (.slice (some ⟨x.B, x.o + i * 3, none⟩) (n + 1 - i) (c - i)) := by
  simp only [VR]
  exact ⟨_, c - i, rfl, Nat.le_refl _, by omega, nofun, .inr ⟨_, i * 3, hmu1, rfl, by simp only; omega, fun _ => rfl⟩⟩
 have hg2 : (H.set b .dead ++ [Blk.row A1 true])[b2]? = some (.row ds true) := by
  have hlt : b2 < H.length := (List.getElem?_eq_some_iff.1 hb2).1
  rw [List.getElem?_append_left (by simp [hlt]), List.getElem?_set_ne hne]
  exact hb2
 have hgN : (H.set b .dead ++ [Blk.row A1 true])[H.length]? = some (.row A1 true) := by
  rw [List.getElem?_append_right (by simp)]; simp
 have hl2 : Heap.loadN (H.set b .dead ++ [Blk.row A1 true]) b2 0 (1 * 3) = some (ds.take 3) := by
  unfold Heap.loadN
  rw [hg2]
  simp only
  rw [if_pos (by omega)]; rfl
 have hst2 : Heap.storeN (H.set b .dead ++ [Blk.row A1 true]) H.length (i * 3) (ds.take 3) = some ((H.set b .dead ++ [Blk.row A1 true]).set H.length (Blk.row (setL A1 (i * 3) (ds.take 3)) true)) := by
  unfold Heap.storeN
  rw [hgN]
  simp only
  rw [if_pos (by rw [List.length_take]; omega)]
 have hcv : copyV { k := .strct [], size := 3, bytes := 0, zero := [] } (.slc H.length (i * 3) (n + 1 - i) (n + 1 - i) false 3) (.slc b2 0 1 cap2 t2 3) (H.set b .dead ++ [Blk.row A1 true]) = some (.int .i64 1, (H.set b .dead ++ [Blk.row A1 true]).set H.length (Blk.row (setL A1 (i * 3) (ds.take 3)) true)) := by
  unfold copyV
  have hmin : Nat.min 1 (n + 1 - i) = 1 := Nat.min_eq_left (by omega)
  simp only [hmin]
  rw [if_neg (by decide), hl2]
  simp only
  rw [hst2]
  rfl
 obtain ⟨ie, hie, hisz⟩ : ∃ ie, T 63 = some ie ∧ ie.size = 3 := ⟨_, T63, rfl⟩
 have hcv2 : copyV ie (.slc H.length (i * 3) (n + 1 - i) (n + 1 - i) false 3) (.slc b2 0 1 cap2 t2 3) (H.set b .dead ++ [Blk.row A1 true]) = some (.int .i64 1, (H.set b .dead ++ [Blk.row A1 true]).set H.length (Blk.row (setL A1 (i * 3) (ds.take 3)) true)) := by
  rw [← hcv]
  unfold copyV
  simp only [hisz]
 have hcp2all := fun ty => Nk (ty := ty) (t1 := 30) (t2 := 30) fit S1 Nv hie hd2 (hu0.mono T1.ext) hcv2
 obtain ⟨cv2, w2, μ2, h1, h2, h3, h4⟩ := hcp2all 3
 have hcp2 : ∀ ty, (Builtin.copy_ #[30, 30] ty #[.slice (some ⟨x.B, x.o + i * 3, none⟩) (n + 1 - i) (c - i), .slice (some ⟨x2.B, x2.o + 0, none⟩) 1 c2]).run Tryz.prog w1 = .ok (.int .i64 1) w2 := fun ty => by
  have : cv2 = .int .i64 1 := by simpa only [VR] using h2
  rw [← this]
  exact h1
 have hfin : (H.set b .dead ++ [Blk.row A1 true]).set H.length (Blk.row (setL A1 (i * 3) (ds.take 3)) true) = H.set b .dead ++ [Blk.row (CS cs (ds.take 3) i n) true] := by
  have hins : setL A1 (i * 3) (ds.take 3) = CS cs (ds.take 3) i n := by
   have hd3 : (ds.take 3).length = 3 := by rw [List.length_take]; omega
   rw [GV (by rw [hd3]; omega), ← hA1, hd3]
   unfold CS
   rw [List.take_append_of_le_length (by rw [List.length_take]; omega), List.take_take, Nat.min_eq_left (by omega)]
   rw [show i * 3 + 3 = (cs.take ((i + 1) * 3)).length by rw [List.length_take]; omega, List.drop_left]
  rw [hins]
  rw [show H.length = (H.set b Blk.dead).length from hK.symm]
  exact List.set_append_right _ _ (Nat.le_refl _) |>.trans (by rw [Nat.sub_self]; rfl)
 rw [hfin] at h3 h4
 refine (Sc x.B x.o n c i x2.B (x2.o + 0) c2 w w1 w2 hi hn hc hov hcp1 hcp2).mono ?_
 rintro e w' ⟨rfl, rfl⟩
 refine ⟨_, μ2, rfl, ?_, h3, T1.trans h4 (fun b x h => (s.lt b x h).1)⟩
 simp only [VR]
 exact ⟨_, c, rfl, Nat.le_refl _, by omega, nofun, .inr ⟨_, 0, h4.ext _ _ hmu1, rfl, by simp only; omega, fun _ => rfl⟩⟩
theorem Zd {ρ : Rho} {h h' : Heap} {a b v : V} {xs : Array Operand} {t1 t2 e e2 : Nat} {i i2 ie : TI} (hx : evs ρ.ev xs.toList = some [a, b]) (hT : T t1 = some i) (hk : i.k = .slice e) (hE : T e = some ie) (hT2 : T t2 = some i2) (hk2 : i2.k = .slice e2) (hc : copyV ie a b h = some (v, h')) : CP T ρ h (.call { callee := .builtin .copy, args := xs, argTypes := #[t1, t2] }) v h' := by
 obtain ⟨k, size, bytes, zero, cmp⟩ := i
 obtain ⟨k', size', bytes', zero', cmp'⟩ := i2
 simp only at hk hk2
 subst hk; subst hk2
 refine Cw rfl ?_ ?_
 ·simp only [pureOp, hx]; rfl
 ·simp only [memOp, hx, hT, hT2, hE]
  exact hc
theorem aC : ∃ ie, T 63 = some ie ∧ ie.size = 3 ∧ ie.zero.length = 3 ∧ ie.bytes = 32 := ⟨_, T63, rfl, rfl, rfl⟩
theorem Sb (H : Heap) (b b2 n i cap2 : Nat) (t2 : Bool) (cs ds : List V) (hb : H[b]? = some (.row cs true)) (hcs : n * 3 ≤ cs.length) (hi : i < n) (hn : n ≤ 64) (hb2 : H[b2]? = some (.row ds true)) (hds : 3 ≤ ds.length) :
  Call Tryz.prog 158 [.slc b 0 n n true 3, .int .i64 (i : Int), .slc b2 0 1 cap2 t2 3] H (.slc H.length 0 (n + 1) (n + 1) false 3) (H ++ [Blk.row (CS cs (ds.take 3) i n) true]) := by
 suffices hgoal : ∃ w H', (w = .slc H.length 0 (n + 1) (n + 1) false 3 ∧ H' = H ++ [Blk.row (CS cs (ds.take 3) i n) true]) ∧ Call Tryz.prog 158 [.slc b 0 n n true 3, .int .i64 (i : Int), .slc b2 0 1 cap2 t2 3] H w H' by
  obtain ⟨w, H', ⟨rfl, rfl⟩, h⟩ := hgoal
  exact h
 refine CY fit mixed Tryz.func158 rfl rfl rfl (by kernel_rfl) ?_
 obtain ⟨ie, hie, hsz, hzl, hby⟩ := aC
 have hm1 : (i + 1) * 3 ≤ n * 3 := Nat.mul_le_mul_right _ hi
 have hm2 : (n - i) * 3 = n * 3 - i * 3 := Nat.sub_mul ..
 have c10 : (((1 : Nat) : Int) == 0) = false := by decide
 have wn1' : IntKind.i64.wrap ((n : Int) + ((1 : Nat) : Int)) = ((n + 1 : Nat) : Int) := by rw [wrap_i64 (by omega) (by omega)]; omega
 have wi1' : IntKind.i64.wrap ((i : Int) + ((1 : Nat) : Int)) = ((i + 1 : Nat) : Int) := by rw [wrap_i64 (by omega) (by omega)]; omega
 have hzn : ((n : Int) == (i : Int)) = false := by simp; omega
 have hzi : ((i : Int) == (n : Int)) = false := by simp; omega
 have wn1 : IntKind.i64.wrap ((n : Int) + 1) = ((n + 1 : Nat) : Int) := by rw [wrap_i64 (by omega) (by omega)]; omega
 have wi1 : IntKind.i64.wrap ((i : Int) + 1) = ((i + 1 : Nat) : Int) := by rw [wrap_i64 (by omega) (by omega)]; omega
 have wd : IntKind.i64.wrap (((n + 1 : Nat) : Int) - (i : Int)) = ((n + 1 - i : Nat) : Int) := by rw [wrap_i64 (by omega) (by omega)]; omega
 have hgt : decide (((n + 1 : Nat) : Int) > (n : Int)) = true := decide_eq_true (by omega)
 have s1 : sliceV 3 (.slc b 0 n n true 3) (some (.int .i64 (i : Int))) none none = some (.slc b (i * 3) (n - i) (n - i) true 3) := by
  simp only [sliceV, boundV, Option.isSome_none, Bool.false_and, Bool.false_eq_true, if_false, ne_eq, not_true_eq_false]
  rw [if_pos (by omega)]
  simp
 have s2 : sliceV 3 (.slc b 0 n n true 3) none (some (.int .i64 (i : Int))) none = some (.slc b 0 i n true 3) := by
  simp only [sliceV, boundV, Option.isSome_none, Bool.false_and, Bool.false_eq_true, if_false, ne_eq, not_true_eq_false]
  rw [if_pos (by omega)]
  simp
 obtain ⟨Z, hZ⟩ : ∃ Z, Bw ie.zero (n + 1 - i) = Z := ⟨_, rfl⟩
 have hZl : Z.length = (n + 1 - i) * 3 := by rw [← hZ, EK, hzl]
 have hm3 : (n + 1 - i) * 3 = (n + 1) * 3 - i * 3 := Nat.sub_mul ..
 have hnews : newsOf T ie 3 (.int .i64 ((n + 1 - i : Nat) : Int)) H = some (n + 1 - i, Z) := by
  unfold newsOf
  simp only [T3]
  rw [if_pos ⟨by omega, by rw [hby]; omega, by simp only [IntKind.max, IntKind.signed, IntKind.bits]; simp; omega⟩]
  rw [Int.toNat_natCast, hZ]
 obtain ⟨A0, hA0⟩ : ∃ A0, cs.take (i * 3) ++ Z = A0 := ⟨_, rfl⟩
 have hA0l : A0.length = (n + 1) * 3 := by rw [← hA0, List.length_append, List.length_take, hZl]; omega
 have hload : H.loadN b 0 (i * 3) = some (cs.take (i * 3)) := by
  unfold Heap.loadN
  rw [hb]
  simp only
  rw [if_pos (by omega)]; rfl
 have happ : appendV ie (.slc b 0 i n true 3) (n + 1 - i) Z H = some (.slc H.length 0 (n + 1) (n + 1) false 3, H ++ [Blk.row A0 true]) := by
  unfold appendV
  rw [if_neg (by rw [hZl, hsz]; simp)]
  simp only
  rw [if_neg (by rw [hsz]; simp), if_neg (by omega), if_pos ⟨by rw [hby]; omega, by omega⟩, hsz, hb, hload]
  simp only [if_true, hA0]
  rw [show i + (n + 1 - i) = n + 1 by omega]
 obtain ⟨H1, hH1⟩ : ∃ H1, H ++ [Blk.row A0 true] = H1 := ⟨_, rfl⟩
 rw [hH1] at happ
 have g1 : H1[H.length]? = some (.row A0 true) := by rw [← hH1]; simp
 have hlt1 : H.length < H1.length := (List.getElem?_eq_some_iff.1 g1).1
 have hlb : b < H.length := (List.getElem?_eq_some_iff.1 hb).1
 have hlb2 : b2 < H.length := (List.getElem?_eq_some_iff.1 hb2).1
 have gb1 : H1[b]? = some (.row cs true) := by rw [← hH1, List.getElem?_append_left hlb]; exact hb
 have gb2 : H1[b2]? = some (.row ds true) := by rw [← hH1, List.getElem?_append_left hlb2]; exact hb2
 have s3 : sliceV 3 (.slc H.length 0 (n + 1) (n + 1) false 3) (some (.int .i64 (i : Int))) none none = some (.slc H.length (i * 3) (n + 1 - i) (n + 1 - i) false 3) := by
  simp only [sliceV, boundV, Option.isSome_none, Bool.false_and, Bool.false_eq_true, if_false, ne_eq, not_true_eq_false]
  rw [if_pos (by omega)]
  simp
 have s4 : sliceV 3 (.slc H.length 0 (n + 1) (n + 1) false 3) (some (.int .i64 ((i + 1 : Nat) : Int))) none none = some (.slc H.length ((i + 1) * 3) (n - i) (n - i) false 3) := by
  simp only [sliceV, boundV, Option.isSome_none, Bool.false_and, Bool.false_eq_true, if_false, ne_eq, not_true_eq_false]
  rw [if_pos (by omega)]
  simp [Nat.succ_sub_succ]
 obtain ⟨A1, hA1⟩ : ∃ A1, setL A0 (i * 3) (ds.take 3) = A1 := ⟨_, rfl⟩
 have hA1l : A1.length = (n + 1) * 3 := by rw [← hA1, Ck]; exact hA0l
 have hd3 : (ds.take 3).length = 3 := by rw [List.length_take]; omega
 have k1 : copyV ie (.slc H.length (i * 3) (n + 1 - i) (n + 1 - i) false 3) (.slc b2 0 1 cap2 t2 3) H1 = some (.int .i64 1, H1.set H.length (.row A1 true)) := by
  unfold copyV
  have hmin : Nat.min 1 (n + 1 - i) = 1 := Nat.min_eq_left (by omega)
  have hl : H1.loadN b2 0 3 = some (ds.take 3) := by
   unfold Heap.loadN
   rw [gb2]
   simp only
   rw [if_pos (by omega)]; rfl
  have hst : H1.storeN H.length (i * 3) (ds.take 3) = some (H1.set H.length (.row A1 true)) := by
   unfold Heap.storeN
   rw [g1]
   simp only
   rw [if_pos (by rw [hd3]; omega), hA1]
  simp only [hmin, hsz, Nat.one_mul]
  rw [if_neg (by decide), hl]
  simp only
  rw [hst]
  rfl
 obtain ⟨H2, hH2⟩ : ∃ H2, H1.set H.length (.row A1 true) = H2 := ⟨_, rfl⟩
 rw [hH2] at k1
 have g2 : H2[H.length]? = some (.row A1 true) := by rw [← hH2, List.getElem?_set_self hlt1]
 have hlt2 : H.length < H2.length := by rw [← hH2, List.length_set]; exact hlt1
 have gc2 : H2[b]? = some (.row cs true) := by rw [← hH2, List.getElem?_set_ne (by omega)]; exact gb1
 obtain ⟨X, hX⟩ : ∃ X, (cs.drop (i * 3)).take ((n - i) * 3) = X := ⟨_, rfl⟩
 have hXl : X.length = (n - i) * 3 := by rw [← hX, List.length_take, List.length_drop]; omega
 have hfin : setL A1 ((i + 1) * 3) X = CS cs (ds.take 3) i n := by
  rw [← hA1, ← hA0, GV (cs := cs.take (i * 3) ++ Z) (by rw [hd3, hA0, hA0l]; omega)]
  have e1 : (cs.take (i * 3) ++ Z).take (i * 3) = cs.take (i * 3) := by
   rw [List.take_append_of_le_length (by rw [List.length_take]; omega), List.take_take, Nat.min_self]
  rw [e1, hd3]
  have hl1 : (cs.take (i * 3) ++ ds.take 3).length = (i + 1) * 3 := by rw [List.length_append, List.length_take, hd3]; omega
  rw [GV (by rw [List.length_append, hl1, List.length_drop, hA0, hA0l, hXl]; omega)]
  have e2 : (cs.take (i * 3) ++ ds.take 3 ++ (cs.take (i * 3) ++ Z).drop (i * 3 + 3)).take ((i + 1) * 3) = cs.take (i * 3) ++ ds.take 3 := by
   rw [List.take_append_of_le_length (by rw [hl1]; exact Nat.le_refl _), List.take_of_length_le (by rw [hl1]; exact Nat.le_refl _)]
  have e3 : (cs.take (i * 3) ++ ds.take 3 ++ (cs.take (i * 3) ++ Z).drop (i * 3 + 3)).drop ((i + 1) * 3 + X.length) = [] := by
   apply List.drop_eq_nil_of_le
   rw [List.length_append, hl1, List.length_drop, hA0, hA0l, hXl]; omega
  rw [e2, e3, List.append_nil, ← hX]
  rfl
 have k2 : copyV ie (.slc H.length ((i + 1) * 3) (n - i) (n - i) false 3) (.slc b (i * 3) (n - i) (n - i) true 3) H2 = some (.int .i64 ((n - i : Nat) : Int), H2.set H.length (.row (CS cs (ds.take 3) i n) true)) := by
  unfold copyV
  have hmin : Nat.min (n - i) (n - i) = n - i := Nat.min_self _
  have hl : Heap.loadN H2 b (i * 3) ((n - i) * 3) = some X := by
   unfold Heap.loadN
   rw [gc2]
   simp only
   rw [if_pos (by omega), hX]
  have hst : Heap.storeN H2 H.length ((i + 1) * 3) X = some (H2.set H.length (.row (CS cs (ds.take 3) i n) true)) := by
   unfold Heap.storeN
   rw [g2]
   simp only
   rw [if_pos (by rw [hXl]; omega), hfin]
  simp only [hmin, hsz]
  rw [if_neg (by omega), hl]
  simp only
  rw [hst]
 have hend : H2.set H.length (.row (CS cs (ds.take 3) i n) true) = H ++ [Blk.row (CS cs (ds.take 3) i n) true] := by
  rw [← hH2, List.set_set, ← hH1]
  exact List.set_append_right _ _ (Nat.le_refl _) |>.trans (by rw [Nat.sub_self]; rfl)
 rw [hend] at k2
 clear hend hfin hX hXl g2 hlt2 gc2 hH2 hA1 hA1l hd3 g1 hlt1 gb1 gb2 hH1 hA0 hA0l hload hZ hZl hm1 hm2 hm3 hb hb2 hlb hlb2 hcs hds hi hn hzl hby
 refine goM ?_
 refine BC (JU eLk T30 rfl hie hnews happ) ?_
 refine goM ?_
 refine BC (Zd eLk T30 rfl hie T30 rfl k1) ?_
 refine goM ?_
 refine CU (Zd eLk T30 rfl hie T30 rfl k2) ?_
 refine goM ?_
 refine AL (by simp only [resRf, resRs, resR]; first | done | rfl) ⟨?_, rfl⟩
 simp [AD, AB]
theorem SZ (H : Heap) (b b2 n i cap cap2 : Nat) (t t2 : Bool) (cs ds : List V) (hb : H[b]? = some (.row cs true)) (hcs : n * 3 ≤ cs.length) (hi : i < n) (hn : n ≤ 64) (hcap : n ≤ cap) (hb2 : H[b2]? = some (.row ds true)) (hds : 3 ≤ ds.length) (hcap2 : 1 ≤ cap2) (hne : b ≠ b2) :
  Call Tryz.prog 158 [.slc b 0 n cap t 3, .int .i64 (i : Int), .slc b2 0 1 cap2 t2 3] H (.slc H.length 0 (n + 1) (n + 1) false 3) (H.set b .dead ++ [Blk.row (CS cs (ds.take 3) i n) true]) := by
 have hfull := Sb H b b2 n i cap2 t2 cs ds hb hcs hi hn hb2 hds
 refine ⟨hfull.1, fun μ w cargs s hv => ?_⟩
 have hv0 := hv
 simp only [VRs] at hv
 obtain ⟨cv, _, he, hcv, ci, _, rfl, hci, cu, _, rfl, hcu, rfl⟩ := hv
 have hcv0 := hcv
 simp only [VR] at hcv hci
 obtain ⟨a, c, rfl, q1, q2, q3, q45⟩ := hcv
 rcases q45 with ⟨_, q4⟩ | ⟨x, o, hx, rfl, q4, q5⟩
 ·omega
 obtain rfl := q5 (by omega)
 have hargs : cargs = #[.slice (some ⟨x.B, x.o + 0, none⟩) n c, ci, cu] := BG he
 subst hci
 by_cases hcn : c = n
 ·subst hcn
  have hv2 : VRs μ [.slc b 0 c c true 3, .int .i64 (i : Int), .slc b2 0 1 cap2 t2 3] cargs.toList := by
   rw [he]
   simp only [VRs]
   refine ⟨_, _, rfl, ?_, _, _, rfl, VR.Cu _ _, _, _, rfl, hcu, rfl⟩
   simp only [VR]
   exact ⟨_, c, rfl, Nat.le_refl _, Nat.le_refl _, fun _ => rfl, .inr ⟨x, 0, hx, rfl, q4, fun _ => rfl⟩⟩
  refine (hfull.2 μ w cargs s hv2).mono ?_
  rintro e w' ⟨cv, μ', rfl, h1, h2, h3⟩
  have hlb : b < H.length := (List.getElem?_eq_some_iff.1 hb).1
  have hb' : (H ++ [Blk.row (CS cs (ds.take 3) i c) true])[b]? = some (.row cs true) := by rw [List.getElem?_append_left hlb]; exact hb
  obtain ⟨k1, k2⟩ := Oo h2 hb'
  have hset : (H ++ [Blk.row (CS cs (ds.take 3) i c) true]).set b Blk.dead = H.set b .dead ++ [Blk.row (CS cs (ds.take 3) i c) true] := List.set_append_left _ _ hlb
  rw [hset] at k1 k2
  exact ⟨cv, μ', rfl, h1, k1, h3.trans k2 (fun b x h => (s.lt b x h).1)⟩
 ·have := Qu s hx hb hcs hi hn (c := c) (by omega) (by omega) hcu hb2 hds hcap2 hne
  rw [hargs]
  exact this
theorem Sa (B H : Heap) (L : List Res) (f : Res → List Res) (v u : V) (es : List Ent) (e : Ent) (hM : Mem B H L) (hh : Has L (.own 3 BE v es) f) (hu : Sl 3 BE H u [e]) (hl : es.length ≤ 64) :
  ∃ w H', Call Tryz.prog 158 [v, .int .i64 (es.length : Int), u] H w H' ∧ Mem B H' (f (.own 3 BE w (es ++ [e]))) := by
 refine CO fit mixed hM Tryz.func158 rfl rfl rfl (by kernel_rfl) fun _ => ?_
 obtain ⟨r, hr, _⟩ := (hM.sl hh).rest (l := es.length) (Nat.le_refl _)
 have hl1 := (hM.sl hh).len T30 rfl
 have hl2 := hu.len T30 rfl
 have c10 : ((([e].length : Nat) : Int) == 0) = false := by simp
 refine goM ?_
 refine Bg hu (xs := es) (hh := hh) (hb := by simp only [List.length_cons, List.length_nil]; omega) fun w H' hM' => ?_
 refine goM ?_
 exact AY hM'
theorem Vh (B H : Heap) (L : List Res) (f : Res → List Res) (v u : V) (es : List Ent) (e : Ent) (i : Nat) (hM : Mem B H (.own 3 BE u [e] :: L)) (hh : Has L (.own 3 BE v es) f) (hi : i ≤ es.length) (hl : es.length ≤ 64) :
  ∃ w H', Call Tryz.prog 158 [v, .int .i64 (i : Int), u] H w H' ∧ Mem B H' (.own 3 BE u [e] :: f (.own 3 BE w (es.take i ++ e :: es.drop i))) := by
 have hh' := Has.there (s := Res.own 3 BE u [e]) hh
 rcases Nat.lt_or_ge i es.length with hlt | hge
 ·have hv := hM.get hh'
  have hu := hM.get .here
  rcases hv with ⟨_, rfl⟩ | ⟨b, hv⟩
  ·simp at hlt
  rcases hu with ⟨_, h⟩ | ⟨b2, hu⟩
  ·cases h
  have hbv := hv.blk
  have hbu := hu.blk
  have hne : b ≠ b2 := fun e0 => by
   subst e0
   have hmem : Res.own 3 BE v es ∈ L := by
    obtain ⟨L1, L2, rfl, _⟩ := hh.parts
    simp
   exact (List.pairwise_cons.1 hM.sep).1 _ hmem b hbu hbv
  obtain ⟨cap, t, cs, rfl, h1, h2, h3, h4⟩ := hv
  obtain ⟨cap2, t2, ds, rfl, g1, g2, g3, g4⟩ := hu
  have hlb : b < H.length := (List.getElem?_eq_some_iff.1 h2).1
  have hd : ds.take 3 = Hy e := by
   have := g4.cell (k := 0) (x := e) rfl
   simpa [BE] using this
  have hds : 3 ≤ ds.length := by have := g4.1; simpa using this
  have hc := SZ H b b2 es.length i cap cap2 t t2 cs ds h2 (by have := h4.1; omega) hlt hl h1 g2 hds g1 hne
  rw [hd] at hc
  refine ⟨_, _, hc, ?_⟩
  have hcells := Wt (e := e) h4 hi
  have hnl : (es.take i ++ e :: es.drop i).length = es.length + 1 := by simp; omega
  refine hM.VB hh' (by simp) (fun c hc hno => ?_) (.inr ⟨H.length, es.length + 1, false, _, by rw [hnl], by rw [hnl]; exact Nat.le_refl _, by rw [List.getElem?_append_right (by simp)]; simp; rfl, by rw [hcells.1, hnl], ?_⟩) (fun c hc => .inr ?_)
  ·rw [List.getElem?_append_left (by simpa using hc), List.getElem?_set_ne (fun e => hno (by subst e; exact hbv))]
  ·refine ⟨by rw [hcells.1]; exact Nat.le_refl _, ?_⟩
   rw [List.take_of_length_le (by rw [hcells.1]; exact Nat.le_refl _)]
   exact hcells
  ·cases hc; exact Nat.le_refl _
 ·obtain rfl : i = es.length := by omega
  rw [List.take_of_length_le (Nat.le_refl _), List.drop_eq_nil_of_le (Nat.le_refl _)]
  exact Sa B H _ _ v u es e hM hh' (hM.sl .here) hl
theorem Jb (H : Heap) (v : V) (es : List Ent) (hx : Sl 3 BE H v es) (hl : es.length ≤ 64) : ∃ w H', Call Tryz.prog 117 [v] H w H' ∧ Mem H H' [.own 3 BE w es] := by
 refine Ao fit mixed Tryz.func117 rfl rfl rfl (by kernel_rfl) fun hM => ?_
 rcases hx with ⟨rfl, rfl⟩ | ⟨b, off, cap, t, cs, wr, rfl, h1, h2, h3, h4⟩
 ·refine goM ?_
  exact AY (hM.nil 3 BE)
 ·have hx : Sl 3 BE H (.slc b off es.length cap t 3) es := .inr ⟨b, off, cap, t, cs, wr, rfl, h1, h2, h3, h4⟩
  clear h1 h2 h3 h4
  refine goM ?_
  refine Aa BE [] [] T30 rfl T63 rfl (Du []) (by decide) fun e1 H3 hM => ?_
  refine goM ?_
  refine Bg (hx.mono hM.pre) (xs := []) (hb := by simp only [List.length_nil]; omega) fun a H4 hM => ?_
  refine goM ?_
  exact AY hM
theorem Ec {es : List Ent} {k : Nat} {e : Ent} (d : Int) (h : es[k]? = some e) : GF es k d = es.set k ⟨e.id, e.tx, e.n + d⟩ := by unfold GF; rw [h]
theorem Mem.GF {B H : Heap} {L : List Res} {f : Res → List Res} {v : V} {es : List Ent} {k : Nat} {e : Ent} (hM : Mem B H L) (hh : Has L (.own 3 BE v es) f) (he : es[k]? = some e) (d : Int) {b o : Nat} (hi : idxV T 30 v (k : Int) = some (.ptr b o)) : ∃ H', storeV T 3 H b (o + 2) (.int .i64 (e.n + d)) = some H' ∧ Mem B H' (f (.own 3 BE v (VM.GF es k d))) := by
 obtain ⟨b', hix, hput⟩ := hM.elemAt hh T30 rfl T63 rfl he 2 T3 (by decide)
 rw [hi] at hix
 cases hix
 rw [Ec d he]
 exact hput (.int .i64 (e.n + d)) ⟨e.id, e.tx, e.n + d⟩ rfl rfl fun cs hl hR => by rw [hR]; rfl
theorem Hf {es : List Ent} {k : Nat} {e : Ent} (h : es[k]? = some e) : freeFrom (es.drop k) k = if e.id = (k : Int) then freeFrom (es.drop (k + 1)) (k + 1) else k := by
 obtain ⟨hlt, rfl⟩ := List.getElem?_eq_some_iff.1 h
 rw [List.drop_eq_getElem_cons hlt]; rfl
theorem Ml {es : List Ent} (hs : Bx es) {k : Nat} {e : Ent} (h : es[k]? = some e) : 0 ≤ e.n ∧ e.n ≤ 8 := by
 have := hs.ok e (List.mem_of_getElem? h)
 unfold Gf at this
 simp only [Bool.and_eq_true, within_iff] at this
 exact this.2
theorem Uj (H : Heap) (v : V) (es : List Ent) (s : ByteArray) (hx : Sl 3 BE H v es) (hl : es.length ≤ 2 ^ 47) :
  ∃ w H', Call Tryz.prog 99 [v, .str s] H w H' ∧ ∃ u, w = .tup [u, .int .i64 (putS es s).2.1, .int .i64 (putS es s).2.2] ∧ Mem H H' [.own 3 BE u (putS es s).1] := by
 refine Ao fit mixed Tryz.func99 rfl rfl rfl (by kernel_rfl) fun hM => ?_
 have c1 := IK H v es hx hl
 have c2 := dG H s
 unfold putS
 cases hm : Az es with
 | false =>
  rw [hm] at c1
  rw [Bool.false_and, if_pos rfl]
  clear hm c2
  refine goM ?_
  refine AA c1 ?_
  refine goM ?_
  exact CI ⟨_, rfl, hM.nil 3 BE⟩
 | true =>
  rw [hm] at c1
  have hs := Cd hm
  cases ht : DX s with
  | false =>
   rw [ht] at c2
   rw [Bool.and_false, if_pos rfl]
   clear hm ht hs
   refine goM ?_
   refine AA c1 ?_
   refine goM ?_
   refine AA c2 ?_
   refine goM ?_
   exact CI ⟨_, rfl, hM.nil 3 BE⟩
  | true =>
   rw [ht] at c2
   rw [Bool.and_true, if_neg (by decide)]
   have hn64 := hs.len
   obtain ⟨u, H1, c3, m1⟩ := Jb H v es hx hn64
   have c4 := Yg H1 u es s (m1.sl .here) hl
   have hlen := (m1.sl .here).len T30 rfl
   obtain ⟨n, hn⟩ : ∃ n, es.length = n := ⟨_, rfl⟩
   rw [hn] at hlen hn64
   clear hm ht
   obtain ⟨k, hk⟩ : ∃ k, Bj es s = k := ⟨_, rfl⟩
   rw [hk]
   cases he : es[k]? with
   | some e =>
    have hkl := (List.getElem?_eq_some_iff.1 he).1
    have hr : JH es s = (k : Int) := by unfold JH; rw [hk, if_pos hkl]
    rw [hr] at c4
    obtain ⟨hn0, hn8⟩ := Ml hs he
    obtain ⟨b, o, hie, _, _, _, lo2⟩ := CV (m1.sl .here) he
    have dk : decide ((k : Int) ≥ 0) = true := decide_eq_true (by omega)
    have dk2 : decide ((k : Int) < 0) = false := decide_eq_false (by omega)
    have wn : IntKind.i64.wrap (e.n + 1) = e.n + 1 := wrap_i64 (by omega) (by omega)
    obtain ⟨H2, hst, m2⟩ := m1.GF .here he 1 hie
    obtain ⟨_, _, hie', _, lo0, _⟩ := CV (m2.sl .here) (k := k) (e := ⟨e.id, e.tx, e.n + 1⟩) (by rw [Ec 1 he, List.getElem?_set_self hkl])
    rw [hie] at hie'
    cases hie'
    replace hM := hM.BH m1
    by_cases h8 : e.n = 8
    ·have d8 : (e.n == 8) = true := by rw [h8]; rfl
     simp only [h8, if_true]
     clear hst m1 m2 hn0 hn8 he hr hk hs wn h8 hkl
     refine goM ?_
     refine AA c1 ?_
     refine goM ?_
     refine AA c2 ?_
     refine goM ?_
     refine AA c3 ?_
     refine goM ?_
     refine AA c4 ?_
     refine goM ?_
     exact CI ⟨_, rfl, (hM.sub (L' := []) (by simp)).nil 3 BE⟩
    ·have d8 : (e.n == 8) = false := by simpa using h8
     simp only [h8, if_false]
     clear m1 hn0 hn8 he hr hk hs h8 hkl hM
     refine goM ?_
     refine AA c1 ?_
     refine goM ?_
     refine AA c2 ?_
     refine goM ?_
     refine AA c3 ?_
     refine goM ?_
     refine AA c4 ?_
     refine goM ?_
     refine Dc hst ?_
     refine goM ?_
     exact CI ⟨_, rfl, m2⟩
   | none =>
    have hkl : es.length ≤ k := List.getElem?_eq_none_iff.1 he
    have hr : JH es s = -1 := by unfold JH; rw [hk, if_neg (by omega)]
    rw [hr] at c4
    replace hM := hM.BH m1
    have hl64 : ((n : Int) == 64) = decide (n = 64) := by
     by_cases h : n = 64
     ·subst h; rfl
     ·rw [decide_eq_false h]; simp; omega
    simp only
    rw [hn]
    by_cases h64 : n = 64
    ·rw [decide_eq_true h64] at hl64
     rw [if_pos h64]
     clear m1 he hr hk hs hkl h64
     refine goM ?_
     refine AA c1 ?_
     refine goM ?_
     refine AA c2 ?_
     refine goM ?_
     refine AA c3 ?_
     refine goM ?_
     refine AA c4 ?_
     refine goM ?_
     exact CI ⟨_, rfl, (hM.sub (L' := []) (by simp)).nil 3 BE⟩
    ·rw [decide_eq_false h64] at hl64
     rw [if_neg h64]
     clear m1 he hr hk hs hkl h64
     refine goM ?_
     refine AA c1 ?_
     refine goM ?_
     refine AA c2 ?_
     refine goM ?_
     refine AA c3 ?_
     refine goM ?_
     refine AA c4 ?_
     refine goM ?_
     obtain ⟨z, hz⟩ : ∃ z, Bh es = z := ⟨_, rfl⟩
     rw [hz]
     refine AT (fun c ρ h => ∃ k : Nat, k ≤ n ∧ c = n - k ∧ h = H1 ∧ freeFrom (es.drop k) k = z ∧ ρ 1 = .str s ∧ ρ 7 = u ∧ ρ 9 = .int .i64 (k : Int)) ⟨0, Nat.zero_le _, rfl, rfl, hz, rfl, rfl, rfl⟩ ?_
     clear c1 c2 c3 c4
     rintro _ ρ h ⟨k, hk, rfl, rfl, hfr, g1, g7, g9⟩
     have finish : ∀ ρ : Rho, k = z → ρ 1 = .str s → ρ 7 = u → ρ 9 = .int .i64 (k : Int) → Mem H h [.own 3 BE u es] → ∃ d, d = (k : Int) := fun _ _ _ _ _ _ => ⟨_, rfl⟩
     by_cases hkn : k < n
     ·obtain ⟨e, he⟩ : ∃ e, es[k]? = some e := ⟨es[k]'(by omega), by simp⟩
      obtain ⟨b, o, hie, _, lo0, _⟩ := CV (hM.sl .here) he
      have dkn : decide ((k : Int) < (n : Int)) = true := decide_eq_true (by omega)
      rw [Hf he] at hfr
      by_cases hek : e.id = (k : Int)
      ·have dek : (e.id == (k : Int)) = true := by simpa using hek
       rw [if_pos hek] at hfr
       have hw := AG (n := k) (by omega)
       clear he hek
       refine goM ?_
       exact ⟨n - (k + 1), by omega, k + 1, hkn, rfl, rfl, hfr, by simp [AD, AB, *]⟩
      ·have dek : (e.id == (k : Int)) = false := by simpa using hek
       rw [if_neg hek] at hfr
       subst hfr
       clear he hek hz
       refine goM ?_
       refine Aa BE [⟨(k : Int), s, 1⟩] (Hy ⟨(k : Int), s, 1⟩) T30 rfl T63 rfl (Du [⟨(k : Int), s, 1⟩]) (by decide) fun e1 H2 hM => ?_
       obtain ⟨w, H3, c5, m5⟩ := Vh H H2 _ _ u e1 es ⟨(k : Int), s, 1⟩ k hM .here (by omega) (by omega)
       refine goM ?_
       refine AA c5 ?_
       refine goM ?_
       exact CI ⟨_, rfl, m5.sub sbG⟩
     ·obtain rfl : k = n := by omega
      have dkn : decide ((k : Int) < (k : Int)) = false := decide_eq_false (by omega)
      rw [List.drop_eq_nil_of_le (by omega)] at hfr
      replace hfr : k = z := hfr
      subst hfr
      clear hz hkn
      refine goM ?_
      refine Aa BE [⟨(k : Int), s, 1⟩] (Hy ⟨(k : Int), s, 1⟩) T30 rfl T63 rfl (Du [⟨(k : Int), s, 1⟩]) (by decide) fun e1 H2 hM => ?_
      obtain ⟨w, H3, c5, m5⟩ := Vh H H2 _ _ u e1 es ⟨(k : Int), s, 1⟩ k hM .here (by omega) (by omega)
      refine goM ?_
      refine AA c5 ?_
      refine goM ?_
      exact CI ⟨_, rfl, m5.sub sbG⟩
theorem VU (H : Heap) (v : V) (es : List Ent) (id : Int) (hx : Sl 3 BE H v es) (hl : es.length ≤ 2 ^ 47) :
  ∃ w H', Call Tryz.prog 151 [v, .int .i64 id] H w H' ∧ ∃ u, w = .tup [u, .int .i64 (DP es id).2] ∧ Mem H H' [.own 3 BE u (DP es id).1] := by
 refine Ao fit mixed Tryz.func151 rfl rfl rfl (by kernel_rfl) fun hM => ?_
 have c1 := IK H v es hx hl
 unfold DP
 cases hm : Az es with
 | false =>
  rw [hm] at c1
  rw [if_pos rfl]
  clear hm
  refine goM ?_
  refine AA c1 ?_
  refine goM ?_
  exact An ⟨_, rfl, hM.nil 3 BE⟩
 | true =>
  rw [hm] at c1
  rw [if_neg (by decide)]
  have hs := Cd hm
  have c2 := cX H v es id hx hs
  have hn64 := hs.len
  cases hi : isN es id with
  | false =>
   rw [hi] at c2
   rw [Pe hs hi]
   clear hm hs hi
   refine goM ?_
   refine AA c1 ?_
   refine goM ?_
   refine AA c2 ?_
   refine goM ?_
   exact An ⟨_, rfl, hM.nil 3 BE⟩
  | true =>
   obtain ⟨e, he, hid, hf⟩ := Pf hs hi
   rw [hi] at c2
   rw [hf, he]
   obtain ⟨hn0, hn8⟩ := Ml hs he
   obtain ⟨k, hk⟩ : ∃ k, Ii es id = k := ⟨_, rfl⟩
   rw [hk] at c2 he ⊢
   obtain ⟨b, o, hie, _, _, _, lo2⟩ := CV hx he
   simp only
   by_cases h0 : e.n = 0
   ·have d0 : (e.n == 0) = true := by rw [h0]; rfl
    rw [if_pos h0]
    clear hm hs hi hf hid hk he h0 hn0 hn8
    refine goM ?_
    refine AA c1 ?_
    refine goM ?_
    refine AA c2 ?_
    refine goM ?_
    exact An ⟨_, rfl, hM.nil 3 BE⟩
   ·have d0 : (e.n == 0) = false := by simpa using h0
    rw [if_neg h0]
    obtain ⟨u, H1, c3, m1⟩ := Jb H v es hx hn64
    obtain ⟨b', o', hie', _, _, _, lo2'⟩ := CV (m1.sl .here) he
    obtain ⟨H2, hst, m2⟩ := m1.GF .here he (-1) hie'
    have wn : IntKind.i64.wrap (e.n - 1) = e.n + -1 := by rw [wrap_i64 (by omega) (by omega)]; omega
    clear hm hs hi hf hid hk he h0 hn0 hn8 m1 hM
    refine goM ?_
    refine AA c1 ?_
    refine goM ?_
    refine AA c2 ?_
    refine goM ?_
    refine AA c3 ?_
    refine goM ?_
    refine Dc hst ?_
    refine goM ?_
    exact An ⟨_, rfl, m2⟩
theorem Ye (H : Heap) (v : V) (es : List Ent) (id : Int) (hx : Sl 3 BE H v es) (hl : es.length ≤ 2 ^ 47) :
  Call Tryz.prog 173 [v, .int .i64 id] H (.tup [.str (Cl es id).1, .bool (Cl es id).2]) H := by
 refine AQ fit mixed Tryz.func173 rfl rfl rfl (by kernel_rfl) rfl fun hM => ?_
 have c1 := IK H v es hx hl
 unfold Cl
 cases hm : Az es with
 | false =>
  rw [hm] at c1
  rw [if_pos rfl]
  clear hm
  refine goM ?_
  refine AA c1 ?_
  refine goM ?_
  exact An ⟨rfl, List.prefix_refl _⟩
 | true =>
  rw [hm] at c1
  rw [if_neg (by decide)]
  have hs := Cd hm
  have c2 := cX H v es id hx hs
  cases hi : isN es id with
  | false =>
   rw [hi] at c2
   rw [Pe hs hi]
   clear hm hs hi
   refine goM ?_
   refine AA c1 ?_
   refine goM ?_
   refine AA c2 ?_
   refine goM ?_
   exact An ⟨rfl, List.prefix_refl _⟩
  | true =>
   obtain ⟨e, he, hid, hf⟩ := Pf hs hi
   rw [hi] at c2
   rw [hf, he]
   obtain ⟨k, hk⟩ : ∃ k, Ii es id = k := ⟨_, rfl⟩
   rw [hk] at c2 he
   obtain ⟨b, o, hie, _, _, lo1, _⟩ := CV hx he
   clear hm hs hi hf hid hk he
   refine goM ?_
   refine AA c1 ?_
   refine goM ?_
   refine AA c2 ?_
   refine goM ?_
   exact An ⟨rfl, List.prefix_refl _⟩
def FD (e : Ent) : Bool := e.n == 0
theorem WL (H : Heap) (e : Ent) : Call Tryz.prog 118 [.agg (Hy e)] H (.bool (FD e)) H := by
 refine AQ fit mixed Tryz.func118 rfl rfl rfl (by kernel_rfl) rfl fun hM => ?_
 refine AO (AK ?_)
 refine Ax T63 fun b1 H1 hM => ?_
 refine goM ?_
 exact AY ⟨rfl, hM.pre⟩
theorem Mem.YF {α : Type} {sz : Nat} {R : List V → α → Prop} {B H : Heap} {v : V} {xs : List α} {L : List Res} {f : Res → List Res} (h : Mem B H L) (hh : Has L (.own sz R v xs) f) {t e : Nat} {i ie : TI} (hT : T t = some i) (hk : i.k = .slice e) (hE : T e = some ie) (hs : ie.size = sz) (hz : ie.zero.length = sz) {k : Nat} (hk' : k < xs.length) :
  ∃ u u' H', sliceV sz v (some (.int .i64 (k : Int))) none none = some u ∧ (∀ (ρ : Rho) (x : Operand), ρ.ev x = some u → CP T ρ H (.call { callee := .builtin .clear, args := #[x], argTypes := #[t] }) (.tup []) H') ∧ sliceV sz v none (some (.int .i64 (k : Int))) none = some u' ∧ Mem B H' (f (.own sz R u' (xs.take k))) := by
 rcases h.get hh with ⟨rfl, rfl⟩ | ⟨b, ho⟩
 ·simp at hk'
 have hob := ho.blk
 obtain ⟨cap, t', cs, rfl, g1, g2, g3, g4⟩ := ho
 have hlb : b < H.length := (List.getElem?_eq_some_iff.1 g2).1
 have hm : (xs.length - k) * sz = xs.length * sz - k * sz := Nat.sub_mul ..
 have hkm : k * sz ≤ xs.length * sz := Nat.mul_le_mul_right _ (Nat.le_of_lt hk')
 have hcl := g4.1
 have hzl : (Bw ie.zero (xs.length - k)).length = (xs.length - k) * sz := by rw [EK, hz]
 refine ⟨.slc b (k * sz) (xs.length - k) (cap - k) t' sz, .slc b 0 k cap t' sz, H.set b (.row (setL cs (k * sz) (Bw ie.zero (xs.length - k))) true), ?_, fun ρ x hx => ?_, ?_, ?_⟩
 ·simp only [sliceV, boundV, Option.isSome_none, Bool.false_and, Bool.false_eq_true, if_false, ne_eq, not_true_eq_false]
  rw [if_pos (by omega)]
  simp
 ·obtain ⟨kk, size, bytes, zero, cmp⟩ := i
  simp only at hk
  subst hk
  have hev : evs ρ.ev (#[x] : Array Operand).toList = some [.slc b (k * sz) (xs.length - k) (cap - k) t' sz] := by simp only [evs, hx]
  refine Cw rfl ?_ ?_
  ·simp only [pureOp, hev]; rfl
  ·simp only [memOp, hev, hT, hE]
   rw [if_neg (by omega)]
   unfold Heap.storeN
   rw [g2]
   simp only
   rw [if_pos (by rw [hzl]; omega)]
   rfl
 ·simp only [sliceV, boundV, Option.isSome_none, Bool.false_and, Bool.false_eq_true, if_false, ne_eq, not_true_eq_false]
  rw [if_pos (by omega)]
  simp
 ·have hkl : (xs.take k).length = k := by rw [List.length_take]; omega
  refine h.VB hh (by simp) (fun c hc hno => by rw [List.getElem?_set_ne (fun e => hno (by subst e; exact hob))]) (.inr ⟨b, cap, t', _, by rw [hkl], by rw [hkl]; omega, by rw [List.getElem?_set_self hlb], by rw [Ck]; exact g3, ?_⟩) (fun c hc => .inl ?_)
  ·have h1 := g4.2.take k (Nat.le_of_lt hk')
   rw [List.take_take, Nat.min_eq_left hkm] at h1
   refine ⟨by rw [hkl, Ck]; omega, ?_⟩
   rw [hkl]
   have : (setL cs (k * sz) (Bw ie.zero (xs.length - k))).take (k * sz) = cs.take (k * sz) := by
    rw [GV (by rw [hzl]; omega), List.append_assoc, List.take_append_of_le_length (by rw [List.length_take]; omega), List.take_take, Nat.min_self]
   rw [this]
   exact h1
  ·cases hc; exact hob
theorem Mn {es : List Ent} {p : Ent → Bool} {j : Nat} {e : Ent} (h : es[j]? = some e) : (es.take (j + 1)).filter p = (es.take j).filter p ++ (if p e = true then [e] else []) := by
 rw [List.take_add_one, h, List.filter_append]
 simp [List.filter_cons]
theorem delete_ (B H : Heap) (L : List Res) (f : Res → List Res) (v : V) (es : List Ent) (hM : Mem B H L) (hh : Has L (.own 3 BE v es) f) (hl : es.length ≤ 64) :
  ∃ w H', Call Tryz.prog 119 [v, .fn 118 []] H w H' ∧ Mem B H' (f (.own 3 BE w (es.filter fun e => !FD e))) := by
 refine CO fit mixed hM Tryz.func119 rfl rfl rfl (by kernel_rfl) fun _ => ?_
 have c1 := ME H v es 118 [] FD (hM.sl hh) (by omega) (fun e _ => WL H e)
 obtain ⟨n, hn⟩ : ∃ n, es.length = n := ⟨_, rfl⟩
 obtain ⟨k0, hk0⟩ : ∃ k, es.findIdx FD = k := ⟨_, rfl⟩
 have hkn : k0 ≤ n := by rw [← hk0, ← hn]; exact List.findIdx_le_length
 have hkeep : ∀ (j : Nat) (e : Ent), j < k0 → es[j]? = some e → FD e = false := fun j e hj he => by
  obtain ⟨hlt, rfl⟩ := List.getElem?_eq_some_iff.1 he
  have := List.not_of_lt_findIdx (xs := es) (p := FD) (i := j) (by omega)
  simpa using this
 have htk : ∀ k, k ≤ k0 → (es.take k).filter (fun e => !FD e) = es.take k := fun k hk => by
  apply List.filter_eq_self.2
  intro e he
  obtain ⟨j, hj⟩ := List.mem_iff_getElem?.1 he
  rw [List.getElem?_take] at hj
  split at hj
  ·rw [hkeep j e (by omega) hj]; rfl
  ·cases hj
 unfold UX at c1
 rw [hk0, hn] at c1
 by_cases hk : k0 < n
 ·rw [if_pos hk] at c1
  have dk : ((k0 : Int) == -1) = false := by
   rw [beq_eq_false_iff_ne]; omega
  have hw0 := AG (n := k0) (by omega)
  obtain ⟨e0, he0⟩ : ∃ e, es[k0]? = some e := ⟨es[k0]'(by omega), by simp⟩
  have hfe0 : FD e0 = true := by
   obtain ⟨hlt, rfl⟩ := List.getElem?_eq_some_iff.1 he0
   have := List.findIdx_getElem (xs := es) (p := FD) (w := by omega)
   simpa [hk0] using this
  have hf0 : (es.take (k0 + 1)).filter (fun e => !FD e) = es.take k0 := by
   rw [Mn he0, htk k0 (Nat.le_refl _), hfe0]; simp
  refine goM ?_
  refine AA c1 ?_
  refine goM ?_
  refine AT (fun c ρ hp => ∃ (i j : Nat) (ys : List Ent) (L' : List Res), i < j ∧ j ≤ n ∧ c = n - j ∧ ys.length = n ∧ ys.take i = (es.take j).filter (fun e => !FD e) ∧ ys.drop j = es.drop j ∧ Mem B hp L' ∧ Has L' (.own 3 BE v ys) f ∧ ρ 0 = v ∧ ρ 1 = .fn 118 [] ∧ ρ 5 = .int .i64 (i : Int) ∧ ρ 6 = .int .i64 (j : Int)) ⟨k0, k0 + 1, es, L, Nat.lt_succ_self _, hk, rfl, hn, hf0.symm, rfl, hM, hh, rfl, rfl, rfl, rfl⟩ ?_
  clear hM hh c1 hf0 hfe0 he0 hw0 dk hk htk hkeep hk0 hkn
  rintro _ ρ hp ⟨i, j, ys, L', hij, hjn, rfl, hyl, hti, hdj, hM, hh, g0, g1, g5, g6⟩
  have hlen := (hM.sl hh).len T30 rfl
  rw [hyl] at hlen
  refine goM ?_
  refine AE (fun hb => ?_) (fun hb => ?_)
  ·have hj' : j < n := by simpa using hb
   clear hb
   obtain ⟨e, he⟩ : ∃ e, ys[j]? = some e := ⟨ys[j]'(by omega), by simp⟩
   have hee : es[j]? = some e := by
    have h1 : (ys.drop j)[0]? = some e := by rw [List.getElem?_drop]; exact he
    rw [hdj, List.getElem?_drop] at h1
    exact h1
   have hfs := Mn (p := fun e => !FD e) hee
   have hdj1 : ys.drop (j + 1) = es.drop (j + 1) := by
    have : (ys.drop j).drop 1 = (es.drop j).drop 1 := by rw [hdj]
    simpa [List.drop_drop] using this
   obtain ⟨b, o, hie, hlo, _⟩ := CV (hM.sl hh) he
   have hw := AG (n := j) (by omega)
   have hwi := AG (n := i) (by omega)
   refine goM ?_
   refine Aj (cs := Hy ⟨0, ByteArray.empty, 0⟩) T63 rfl fun b3 H3 hM' => ?_
   refine AM T63 fun H4 hM' => ?_
   have c2 := WL H4 e
   cases hfe : FD e with
   | true =>
    rw [hfe] at c2 hfs
    simp only [Bool.not_true, Bool.false_eq_true, if_false, List.append_nil] at hfs
    rw [← hfs] at hti
    clear hee hdj he hM hlo
    refine goM ?_
    refine AA c2 ?_
    refine goM ?_
    exact ⟨n - (j + 1), by omega, i, j + 1, ys, _, by omega, hj', rfl, hyl, hti, hdj1, hM'.drop, hh, by simp [AD, AB, *]⟩
   | false =>
    rw [hfe] at c2 hfs
    simp only [Bool.not_false, if_true] at hfs
    rw [← hti] at hfs
    obtain ⟨b5, hi5, hput⟩ := hM'.elem (.there hh) T30 rfl T63 rfl (k := i) (by omega)
    obtain ⟨H5, hst, hM5⟩ := hput (.agg (Hy e)) e rfl rfl rfl
    have q1 : (ys.set i e).take (i + 1) = (es.take (j + 1)).filter (fun e => !FD e) := by
     rw [hfs, List.take_add_one, List.getElem?_set_self (by omega), List.take_set_of_le (Nat.le_refl _)]; rfl
    have q2 : (ys.set i e).drop (j + 1) = es.drop (j + 1) := by
     rw [List.drop_set_of_lt (by omega)]; exact hdj1
    clear hee hdj he hM hlo hfs
    refine goM ?_
    refine AA c2 ?_
    refine goM ?_
    refine Dc hst ?_
    refine goM ?_
    exact ⟨n - (j + 1), by omega, i + 1, j + 1, ys.set i e, _, by omega, hj', rfl, by simpa using hyl, q1, q2, hM5.drop, hh.again _, by simp [AD, AB, *]⟩
  ·have hj' : j = n := by have : ¬ j < n := by simpa using hb
                          omega
   subst hj'
   clear hb
   obtain ⟨u, u', H', s1, s2, s3, hM'⟩ := hM.YF hh T30 rfl T63 rfl rfl (k := i) (by omega)
   rw [hti, List.take_of_length_le (by omega)] at hM'
   refine goM ?_
   refine BC (s2 _ _ eLk) ?_
   refine goM ?_
   exact AY hM'
 ·rw [if_neg hk] at c1
  have hall : es.filter (fun e => !FD e) = es := by
   have := htk n (by omega)
   rw [List.take_of_length_le (by omega)] at this
   exact this
  replace hall : Held (es.filter (fun e => !FD e) = es) := hall
  clear htk hkeep hk0 hkn hk
  refine goM ?_
  refine AA c1 ?_
  refine goM ?_
  refine AY ?_
  replace hall : es.filter (fun e => !FD e) = es := hall
  rw [hall, hh.same]; exact hM
theorem Tj (H : Heap) (v : V) (es : List Ent) (hx : Sl 3 BE H v es) (hl : es.length ≤ 2 ^ 47) :
  ∃ w H', Call Tryz.prog 56 [v] H w H' ∧ ∃ u, w = .tup [u, .int .i64 (EE es).2] ∧ Mem H H' [.own 3 BE u (EE es).1] := by
 refine Ao fit mixed Tryz.func56 rfl rfl rfl (by kernel_rfl) fun hM => ?_
 have c1 := IK H v es hx hl
 unfold EE
 cases hm : Az es with
 | false =>
  rw [hm] at c1
  rw [if_pos rfl]
  clear hm
  refine goM ?_
  refine AA c1 ?_
  refine goM ?_
  exact An ⟨_, rfl, hM.nil 3 BE⟩
 | true =>
  rw [hm] at c1
  rw [if_neg (by decide)]
  have hs := Cd hm
  obtain ⟨u, H1, c3, m1⟩ := Jb H v es hx hs.len
  obtain ⟨w, H2, c4, m2⟩ := delete_ H H1 _ _ u es m1 .here hs.len
  have hf : (fun e : Ent => !FD e) = fun e => decide (e.n ≠ 0) := by
   funext e
   unfold FD
   by_cases h : e.n = 0 <;> simp [h]
  rw [hf] at m2
  clear hm hs m1 hM
  refine goM ?_
  refine AA c1 ?_
  refine goM ?_
  refine AA c3 ?_
  refine goM ?_
  refine AA c4 ?_
  refine goM ?_
  exact An ⟨_, rfl, m2⟩
end Go.Proofs.YtncjbjlmgnjhiaaGreat.VM
