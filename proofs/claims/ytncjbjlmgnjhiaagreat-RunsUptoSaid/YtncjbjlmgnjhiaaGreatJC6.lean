/- Joined texts: OptB, TrainC, HelpA, RowC, HelpB, LowP, InitP, TrainE, HelpC, TrainF, PutA, PutB. -/
import Derived.Test.YtncjbjlmgnjhiaaGreatJC3
import Derived.Test.YtncjbjlmgnjhiaaGreatJC4
import Derived.Test.YtncjbjlmgnjhiaaGreatJC5
namespace Go.Proofs.YtncjbjlmgnjhiaaGreat.VM
open Go
set_option linter.unusedVariables false
set_option linter.unusedSimpArgs false
attribute [local irreducible] wq wqL wqD wqE wqO Th Bk EndR
set_option maxHeartbeats 8000000
theorem BR.Yo {α : Type} {sz : Nat} {R : List V → α → Prop} {B H H' : Heap} {u v : V} {xs : List α} (h : BR sz R B H v xs) (hk : Nb u H H') (hb : B <+: H') (ha : Fb u v) : BR sz R B H' v xs := by
 refine ⟨hb, h.2.imp id ?_⟩
 rintro ⟨b, h1, h2⟩
 have hvb := h2.blk
 obtain ⟨cap, t, cs, h3, h4, h5, h6⟩ := h2
 exact ⟨b, h1, cap, t, cs, h3, h4, by rw [hk.2 b (List.getElem?_eq_some_iff.1 h5).1 fun e => ha b b e hvb rfl]; exact h5, h6⟩
theorem Fb.symm {u v : V} (h : Fb u v) : Fb v u := fun b c hb hc e => h c b hc hb e.symm
theorem BR.set {α : Type} {sz : Nat} {R : List V → α → Prop} {B H K : Heap} {v : V} {xs : List α} {c : Nat} {k : Blk} (h : BR sz R B H v xs) (hk : K <+: H.set c k) (hl : K.length ≤ B.length) (hc : c < B.length) : BR sz R K (H.set c k) v xs := by
 refine ⟨hk, h.2.imp id ?_⟩
 rintro ⟨b, h1, cap, t, cs, h3, h4, h5, h6⟩
 exact ⟨b, by omega, cap, t, cs, h3, h4, by rw [List.getElem?_set_ne (by omega)]; exact h5, h6⟩
def LF (r m r' m' : Int) : Bool := decide (r = r') && decide (m = m')
theorem YS (r m r' m' : Int) : vbin T .eql 80 (.agg [.int .i64 r, .int .i64 m]) (.agg [.int .i64 r', .int .i64 m']) = some (.bool (LF r m r' m')) := by
 have h : vbin T .eql 80 (.agg [.int .i64 r, .int .i64 m]) (.agg [.int .i64 r', .int .i64 m']) = some (.bool (r == r' && (m == m' && true))) := by
  simp only [vbin, T80]; rfl
 rw [h]
 unfold LF
 congr 2
 apply Bool.eq_iff_iff.2; simp
def VW (ws vs : List Int) (r m t : Int) (ws' vs' : List Int) (r' m' t' : Int) : Bool := decide (ws = ws') && (decide (vs = vs') && (LF r m r' m' && decide (t = t')))
theorem Uu (H : Heap) (w v w' v' : V) (ws vs ws' vs' : List Int) (r m t r' m' t' : Int) (hw : Sl 1 AH H w ws) (hv : Sl 1 AH H v vs) (hw' : Sl 1 AH H w' ws') (hv' : Sl 1 AH H v' vs') (lw : ws.length ≤ 2 ^ 47) (lv : vs.length ≤ 2 ^ 47) :
  Call Tryz.prog 61 [.agg (Cb w v r m t), .agg (Cb w' v' r' m' t')] H (.bool (VW ws vs r m t ws' vs' r' m' t')) H := by
 refine AJ fit mixed Tryz.func61 rfl rfl rfl (by kernel_rfl) rfl ?_
 obtain ⟨H1, hH1⟩ : ∃ H1, H ++ [.row (Cb w v r m t) true] = H1 := ⟨_, rfl⟩
 obtain ⟨H2, hH2⟩ : ∃ H2, H1 ++ [.row (Cb w' v' r' m' t') true] = H2 := ⟨_, rfl⟩
 have p1 : H <+: H1 := by rw [← hH1]; exact List.prefix_append _ _
 have p2 : H1 <+: H2 := by rw [← hH2]; exact List.prefix_append _ _
 have pend := p1.trans p2
 have g1 : H2[H.length]? = some (.row (Cb w v r m t) true) := CM p2 (by rw [← hH1]; simp)
 have g2 : H2[H1.length]? = some (.row (Cb w' v' r' m' t') true) := by rw [← hH2]; simp
 have a0 := AU (q := 0) T27 rfl g1 rfl
 have a1 := AU (q := 1) T27 rfl g1 rfl
 have a4 := AU (q := 4) T3 rfl g1 rfl
 have b0 := AU (q := 0) T27 rfl g2 rfl
 have b1 := AU (q := 1) T27 rfl g2 rfl
 have b4 := AU (q := 4) T3 rfl g2 rfl
 have a2 : loadV T 80 H2 H.length 2 = some (.agg [.int .i64 r, .int .i64 m]) := by
  refine AZ T80 rfl ?_
  unfold Heap.loadN
  rw [g1]; rfl
 have b2 : loadV T 80 H2 H1.length 2 = some (.agg [.int .i64 r', .int .i64 m']) := by
  refine AZ T80 rfl ?_
  unfold Heap.loadN
  rw [g2]; rfl
 have hq := YS r m r' m'
 have c1 := MX H2 w w' ws ws' (hw.mono pend) (hw'.mono pend) lw
 have c2 := MX H2 v v' vs vs' (hv.mono pend) (hv'.mono pend) lv
 unfold VW
 obtain ⟨r1, e1⟩ : ∃ q, decide (ws = ws') = q := ⟨_, rfl⟩
 obtain ⟨r2, e2⟩ : ∃ q, decide (vs = vs') = q := ⟨_, rfl⟩
 obtain ⟨r3, e3⟩ : ∃ q, LF r m r' m' = q := ⟨_, rfl⟩
 rw [e1] at c1 ⊢
 rw [e2] at c2 ⊢
 rw [e3] at hq ⊢
 have hd : (t == t') = decide (t = t') := by apply Bool.eq_iff_iff.2; simp
 clear e1 e2 e3 hw hv hw' hv' g1 g2 p1 p2
 refine goW ?_
 refine Bb (h' := H2) (by rw [← hH2, ← hH1]) ?_
 rw [hH1]
 refine goW ?_
 refine AA c1 ?_
 cases r1
 ·refine goW ?_
  refine AL (by simp only [resRf, resRs, resR]; first | done | rfl) ⟨?_, pend⟩
  simp [AD, AB]
 refine goW ?_
 refine AA c2 ?_
 cases r2
 ·refine goW ?_
  refine AL (by simp only [resRf, resRs, resR]; first | done | rfl) ⟨?_, pend⟩
  simp [AD, AB]
 refine CH ?_
 repeat (first | refine BO ?_ | refine At ?_ | refine CH ?_ (by first | exact Lf eLk (by rfl) | exact MV eLk UL | exact Ol eLk | exact JV eLk | exact Lh Ib eLk eLk))
 refine BC (EC eLk eLk hq) ?_
 cases r3
 ·refine goW ?_
  refine AL (by simp only [resRf, resRs, resR]; first | done | rfl) ⟨?_, pend⟩
  simp [AD, AB]
 refine goW ?_
 refine AL (by simp only [resRf, resRs, resR]; first | done | rfl) ⟨?_, pend⟩
 simp [AD, AB, hd]
def Mg (B H : Heap) (v : V) (rs : List (List Int × Int)) : Prop := ∃ rv, BR 2 Dg B H v rv ∧ Lq H rv rs ∧ ∀ p ∈ rv, ∀ c, p.1.blk = some c → B.length ≤ c
theorem Mg.rows {B H : Heap} {v : V} {rs : List (List Int × Int)} (h : Mg B H v rs) : Rows H v rs := by
 obtain ⟨rv, h1, h2, _⟩ := h
 exact ⟨rv, h1.sl, h2⟩
theorem Mg.pre {B H : Heap} {v : V} {rs : List (List Int × Int)} (h : Mg B H v rs) : B <+: H := by
 obtain ⟨rv, h1, _⟩ := h
 exact h1.1
theorem Mg.set {B H : Heap} {v : V} {rs : List (List Int × Int)} (h : Mg B H v rs) {c : Nat} {k : Blk} (hc : c < B.length) : Rows (H.set c k) v rs := by
 obtain ⟨rv, h1, h2, h3⟩ := h
 refine ⟨rv, h1.sl.fr fun b hb e => ?_, h2.1, fun j p r hj hr => ⟨(h2.2 j p r hj hr).1.fr fun b hb e => ?_, (h2.2 j p r hj hr).2⟩⟩
 ·have := (h1.blk e).1
  rw [List.getElem?_set_ne (by omega)]
 ·have := h3 p (List.mem_iff_getElem?.2 ⟨j, hj⟩) b e
  rw [List.getElem?_set_ne (by omega)]
theorem Nb.refl (v : V) (H : Heap) : Nb v H H := ⟨Nat.le_refl _, fun _ _ _ => rfl⟩
theorem Nb.trans {v : V} {A B C : Heap} (h : Nb v A B) (k : Nb v B C) : Nb v A C := ⟨Nat.le_trans h.1 k.1, fun c hc hne => by rw [k.2 c (Nat.lt_of_lt_of_le hc h.1) hne, h.2 c hc hne]⟩
theorem TV (H : Heap) (c : Cfg) (u v : V) (hu : Rows H u c.rows) (hv : Rows H v c.rows) (lx : c.rows.length ≤ 2 ^ 47) (l1 : ∀ r ∈ c.rows, r.1.length ≤ 2 ^ 47) : Call Tryz.prog 30 [.agg (BJ c u), .agg (BJ c v)] H (.bool true) H := by
 refine AJ fit mixed Tryz.func30 rfl rfl rfl (by kernel_rfl) rfl ?_
 obtain ⟨H1, hH1⟩ : ∃ H1, H ++ [.row (BJ c u) true] = H1 := ⟨_, rfl⟩
 obtain ⟨H2, hH2⟩ : ∃ H2, H1 ++ [.row (BJ c v) true] = H2 := ⟨_, rfl⟩
 have p1 : H <+: H1 := by rw [← hH1]; exact List.prefix_append _ _
 have p2 : H1 <+: H2 := by rw [← hH2]; exact List.prefix_append _ _
 have pend := p1.trans p2
 have g1 : H2[H.length]? = some (.row (BJ c u) true) := CM p2 (by rw [← hH1]; simp)
 have g2 : H2[H1.length]? = some (.row (BJ c v) true) := by rw [← hH2]; simp
 have a0 := AU (q := 0) T3 rfl g1 rfl
 have a3 := AU (q := 3) T24 rfl g1 rfl
 have a4 := AU (q := 4) T3 rfl g1 rfl
 have a5 := AU (q := 5) T3 rfl g1 rfl
 have a6 := AU (q := 6) T3 rfl g1 rfl
 have a7 := AU (q := 7) T3 rfl g1 rfl
 have a8 := AU (q := 8) T4 rfl g1 rfl
 have b0 := AU (q := 0) T3 rfl g2 rfl
 have b3 := AU (q := 3) T24 rfl g2 rfl
 have b4 := AU (q := 4) T3 rfl g2 rfl
 have b5 := AU (q := 5) T3 rfl g2 rfl
 have b6 := AU (q := 6) T3 rfl g2 rfl
 have b7 := AU (q := 7) T3 rfl g2 rfl
 have b8 := AU (q := 8) T4 rfl g2 rfl
 have a1 : loadV T 23 H2 H.length 1 = some (.agg [.int .i64 c.i, .int .i64 c.h]) := by
  refine AZ T23 rfl ?_
  unfold Heap.loadN
  rw [g1]; rfl
 have b1 : loadV T 23 H2 H1.length 1 = some (.agg [.int .i64 c.i, .int .i64 c.h]) := by
  refine AZ T23 rfl ?_
  unfold Heap.loadN
  rw [g2]; rfl
 have hq : vbin T .eql 23 (.agg [.int .i64 c.i, .int .i64 c.h]) (.agg [.int .i64 c.i, .int .i64 c.h]) = some (.bool true) := by
  have h : vbin T .eql 23 (.agg [.int .i64 c.i, .int .i64 c.h]) (.agg [.int .i64 c.i, .int .i64 c.h]) = some (.bool (c.i == c.i && (c.h == c.h && true))) := by
   simp only [vbin, T23]; rfl
  rw [h]; simp
 have hq2 : vbin T .eql 4 (.bool c.pert) (.bool c.pert) = some (.bool true) := by
  have h : vbin T .eql 4 (.bool c.pert) (.bool c.pert) = some (.bool (c.pert == c.pert)) := by
   simp only [vbin, T4]; rfl
  rw [h]; simp
 have c1 := Xg H2 u v c.rows c.rows (hu.mono pend) (hv.mono pend) lx l1
 rw [decide_eq_true rfl] at c1
 clear hu hv g1 g2 p1 p2
 refine goW ?_
 refine Bb (h' := H2) (by rw [← hH2, ← hH1]) ?_
 rw [hH1]
 repeat (first | refine AO ?_ | refine AK ?_ | refine Ae (by decide +kernel) ?_ | refine AW ?_ | refine BN ?_ | refine BM ?_ | refine Ah ?_ | refine As ?_ | refine Ag ?_ | refine AR ?_ | refine Ar ?_ | refine Ad ?_ | refine AS ?_ | refine Aq ?_ | refine Ac ?_ | refine AV rfl ?_ | refine BO ?_ | refine At ?_ | refine BC (EC eLk eLk hq) ?_ | refine BC (EC eLk eLk hq2) ?_ | refine AA c1 ?_ | refine CH ?_)
 refine AL (by simp only [resRf, resRs, resR]; first | done | rfl) ⟨?_, pend⟩
 simp [AD, AB]
abbrev Cj : List V := [.int .i64 0, .int .i64 0, .int .i64 0, .AN, .int .i64 0, .int .i64 0, .int .i64 0, .int .i64 0, .bool false]
def EO (cs : List V) (n : Int) : Prop := cs = [.int .u8 n]
def strOf (bs : List Int) : ByteArray := ⟨(bs.map fun n => UInt8.ofNat n.toNat).toArray⟩
theorem DW (bs : List Int) : (strOf bs).size = bs.length := by simp [strOf, ByteArray.size]
theorem Xj (a b : List Int) : strOf a ++ strOf b = strOf (a ++ b) := by
 apply ByteArray.ext
 simp [strOf, ByteArray.data_append]
theorem PD : ∀ (cs : List V) (bs : List Int), Cells 1 EO cs bs → V.toBytes cs = some (bs.map fun n => UInt8.ofNat n.toNat)
 | [], [], _ => rfl
 | [], b :: bs, h => by have := h.1; simp at this
 | c :: cs, [], h => by have := h.1; simp at this
 | c :: cs, b :: bs, h => by
  have h0 := h.2 0 b rfl
  simp [EO] at h0
  subst h0
  have ht := PD cs bs ⟨by have := h.1; simpa using this, fun k x hk => by
   have := h.2 (k + 1) x (by simpa using hk)
   simpa [Nat.succ_mul] using this⟩
  simp [V.toBytes, ht]
theorem NU {ρ : Rho} {H : Heap} {x : Operand} {v : V} {bs : List Int} (hx : ρ.ev x = some v) (h : Sl 1 EO H v bs) : CP T ρ H (.convert 68 9 x) (.str (strOf bs)) H := by
 refine Cw rfl ?_ ?_
 ·rcases h with ⟨rfl, _⟩ | ⟨b, off, cap, t, cs, wr, rfl, _⟩ <;> simp only [pureOp, T68, T9, hx]
 ·rcases h with ⟨rfl, rfl⟩ | ⟨b, off, cap, t, cs, wr, rfl, h1, h2, h3, h4⟩
  ·simp only [memOp, T68, T9, T5, hx]; rfl
  ·simp only [memOp, T68, T9, T5, hx]
   by_cases h0 : bs.length = 0
   ·obtain rfl : bs = [] := List.length_eq_zero_iff.1 h0
    simp; rfl
   ·rw [if_neg h0]
    have hl : H.loadN b off bs.length = some ((cs.drop off).take bs.length) := by
     unfold Heap.loadN
     rw [h2]
     simp only
     rw [if_pos (by omega)]
    have hc : Cells 1 EO ((cs.drop off).take bs.length) bs := ⟨by simp; omega, fun k x hk => by
     have hk' := (List.getElem?_eq_some_iff.1 hk).1
     have := h4 k x hk
     rw [List.drop_take, List.drop_drop, List.take_take, Nat.min_eq_left (by omega)]
     exact this⟩
    rw [hl]
    simp only [PD _ _ hc]
    rfl
def Ds (x : Int) (j : Nat) : Int := IntKind.u8.wrap (x.fdiv (2 ^ min (8 * j) IntKind.i64.bits))
def Bm (x : Int) (k : Nat) : List Int := (List.range k).map (Ds x)
theorem HU {a b : List Int} (h : a.length + b.length ≤ 2 ^ 40) : vbin T .add 9 (.str (strOf a)) (.str (strOf b)) = some (.str (strOf (a ++ b))) := by
 simp only [vbin, strBin, DW, Xj]
 rw [if_neg (by simp only [IntKind.max, IntKind.signed, IntKind.bits]; omega)]
theorem CD (x : Int) (k : Nat) : (Bm x k).length = k := by simp [Bm]
def Ch (xs : List Int) : List Int := xs.flatMap fun x => Bm x 4
theorem DJ (xs : List Int) : (Ch xs).length = 4 * xs.length := by
 induction xs with
 | nil => rfl
 | cons x xs ih =>
  have : Ch (x :: xs) = Bm x 4 ++ Ch xs := rfl
  rw [this, List.length_append, ih, CD, List.length_cons]; omega
theorem KX {xs : List Int} {k : Nat} {x : Int} (h : xs[k]? = some x) : Ch (xs.take (k + 1)) = Ch (xs.take k) ++ Bm x 4 := by
 rw [List.take_add_one, h]
 simp [Ch]
def MP (ws vs : List Int) (r m t : Int) : List Int := (((Bm ws.length 1 ++ Ch ws) ++ Ch vs) ++ Bm r 4 ++ Bm m 4) ++ Bm t 1
def initK (s f k : Nat) : Int := (Db s (f + k) : Int) - 32768
def JI (i h s f : Nat) : List Int := (List.range (BA i h)).map (initK s f)
theorem Wq (s f k : Nat) : CA (initK s f k) = true := by
 have := Ho s (f + k)
 unfold CA initK
 rw [within_iff]; omega
theorem Jg (i h s f : Nat) : (JI i h s f).length = BA i h := by simp [JI]
theorem Wr {i h s f : Nat} (hs : BA i h ≤ 16) : BF (JI i h s f) = true := by
 simp only [BF, Bool.and_eq_true, decide_eq_true_eq, List.all_eq_true]
 refine ⟨by rw [Jg]; exact hs, fun b hb => ?_⟩
 obtain ⟨k, _, rfl⟩ := List.mem_map.1 hb
 exact Wq s f k
def DR (s k : Nat) : Nat := 64 + DQ s k 16321
def GI (s k : Nat) : Nat := DQ s (k + 1) 58983
theorem SW (s k : Nat) : BK (DR s k) (GI s k) = true := by
 have h1 := Fo (s := s) (k := k) (b := 16321) (by decide)
 have h2 := Fo (s := s) (k := k + 1) (b := 58983) (by decide)
 unfold DR GI
 simp only [BK, Bool.and_eq_true, within_iff]; omega
abbrev Yv (w v : V) (r m t h : Int) : List V := [w, v, .int .i64 r, .int .i64 m, .int .i64 t, .int .i64 h]
abbrev Dr : List V := [.AN, .AN, .int .i64 0, .int .i64 0, .int .i64 0, .int .i64 0]
def Dl (c : Cfg) (id : Int) : List Int := JI c.i.toNat c.h.toNat c.seed.toNat (50000 + 16 * id.toNat)
def FC (c : Cfg) : List Int := List.replicate (BA c.i.toNat c.h.toNat) 0
def FB (c : Cfg) (id : Int) : Int := DR c.seed.toNat (40000 + 2 * id.toNat)
def firstM (c : Cfg) (id : Int) : Int := GI c.seed.toNat (40000 + 2 * id.toNat)
def KO (c : Cfg) (id : Int) : List Int := MP (Dl c id) (FC c) (FB c id) (firstM c id) 0
theorem JW {i h : Int} (hs : BL i h = true) : ∃ a b : Nat, i = a ∧ h = b ∧ 1 ≤ a ∧ a ≤ 3 ∧ 1 ≤ b ∧ b ≤ 3 := by
 simp only [BL, Bool.and_eq_true, within_iff] at hs
 exact ⟨i.toNat, h.toNat, by omega, by omega, by omega, by omega, by omega, by omega⟩
theorem Ra {a b : Nat} (ha : a ≤ 3) (hb : b ≤ 3) : BA a b ≤ 16 := by have := Cr ha hb; unfold BA; omega
theorem Xr {n : Nat} (hn : n ≤ 16) : BF (List.replicate n 0) = true := by
 simp only [BF, Bool.and_eq_true, decide_eq_true_eq, List.all_eq_true]
 refine ⟨by simpa using hn, fun b hb => ?_⟩
 have := (List.mem_replicate.1 hb).2
 subst this; rfl
theorem KP {c : Cfg} (hc : Al c = true) (id : Int) : BI c.i c.h (Dl c id) (FC c) (FB c id) (firstM c id) 0 = true := by
 obtain ⟨_, hloss, _⟩ := AX hc
 obtain ⟨hs, _⟩ := Ca hloss
 obtain ⟨a, b, ha, hb, ha1, ha3, hb1, hb3⟩ := JW hs
 have h16 := Ra ha3 hb3
 have hv := Wr (s := c.seed.toNat) (f := 50000 + 16 * id.toNat) h16
 have hl := Jg a b c.seed.toNat (50000 + 16 * id.toNat)
 have hz := Xr h16
 have hhy := SW c.seed.toNat (40000 + 2 * id.toNat)
 have hpos : 0 < BA a b := by unfold BA; omega
 have hcast := GW a b
 have hs' : BL (a : Int) (b : Int) = true := by rw [← ha, ← hb]; exact hs
 unfold BI CT Dl FC FB firstM
 rw [ha, hb] at *
 simp only [Int.toNat_natCast]
 simp only [alike, List.all_cons, List.all_nil, hv, hl, hz, hhy, hs', fits, List.length_replicate, hpos]
 simp only [hcast, beq_self_eq_true]
 simp
structure Chk where
 ws : List Int
 vs : List Int
 r : Int
 m : Int
 t : Int
abbrev kC (w v : V) (k : Chk) : List V := [w, v, .int .i64 k.r, .int .i64 k.m, .int .i64 k.t]
abbrev FP : Chk := ⟨[], [], 0, 0, 0⟩
def BW (c : Cfg) (k : Chk) : Bool := BI c.i c.h k.ws k.vs k.r k.m k.t
def kEq (a b : Chk) : Bool := VW a.ws a.vs a.r a.m a.t b.ws b.vs b.r b.m b.t
theorem Sg (a : Chk) : kEq a a = true := by simp [kEq, VW, LF]
structure KAt (H : Heap) (w v : V) (k : Chk) : Prop where
 ws : Sl 1 AH H w k.ws
 vs : Sl 1 AH H v k.vs
theorem KAt.mono {H H' : Heap} {w v : V} {k : Chk} (hp : H <+: H') (h : KAt H w v k) : KAt H' w v k := ⟨h.ws.mono hp, h.vs.mono hp⟩
theorem Mem.k {B H : Heap} {L : List Res} {w v : V} {k : Chk} {f g : Res → List Res} (h : Mem B H L) (h1 : Has L (.own 1 AH w k.ws) f) (h2 : Has L (.own 1 AH v k.vs) g) : KAt H w v k := ⟨h.sl h1, h.sl h2⟩
structure Chk.Fit (k : Chk) : Prop where
 ws : k.ws.length * 8 ≤ 140737488351232
 vs : k.vs.length * 8 ≤ 140737488351232
structure Cfg.Fit (c : Cfg) : Prop where
 rows : c.rows.length * 32 ≤ 140737488351232
 row : ∀ r ∈ c.rows, r.1.length * 8 ≤ 140737488351232
def FK (c : Cfg) (id : Int) (k : Chk) : Bool := Al c && within id 0 (IntKind.i64.wrap (c.m - 1)) && BW c k
def Dm (c : Cfg) (id : Int) (k : Chk) : Chk := ⟨IC k.r k.m k.ws k.vs (FJ c id k.ws k.t), FY k.m k.ws k.vs (FJ c id k.ws k.t), k.r, k.m, k.t + 1⟩
def Cs (c : Cfg) (id : Int) (k : Chk) : Chk × Int :=
 if FK c id k then if k.t ≥ c.total then (FP, 2101) else (Dm c id k, 0) else (FP, 2100)
theorem Ba (xs : List Int) : Cells 1 AH (xs.flatMap fun x => [V.int .i64 x]) xs := Fc (R := AH) (fun x => [V.int .i64 x]) (fun x => ⟨rfl, rfl⟩) xs
theorem Gb (xs : List (V × Int)) : Cells 2 Dg (xs.flatMap fun p => [p.1, V.int .i64 p.2]) xs := Fc (R := Dg) (fun p => [p.1, V.int .i64 p.2]) (fun x => ⟨rfl, rfl⟩) xs
theorem cK {H H' : Heap} {b1 b2 : Nat} {u1 u2 : V} {xs ys : List Int} (hp : H <+: H') (h1 : H.length ≤ b1) (h2 : H.length ≤ b2) (hne : b1 ≠ b2) (o1 : Own 1 AH H' b1 u1 xs) (o2 : Own 1 AH H' b2 u2 ys) : Mem H H' [.own 1 AH u1 xs, .own 1 AH u2 ys] := by
 have e1 := o1.blk
 have e2 := o2.blk
 refine ⟨hp, fun r hr => ?_, fun r hr c hc => ?_, ?_⟩
 ·simp at hr
  rcases hr with rfl | rfl
  ·exact .inr ⟨_, o1⟩
  ·exact .inr ⟨_, o2⟩
 ·simp at hr
  rcases hr with rfl | rfl
  ·have := e1.symm.trans hc; cases this; exact h1
  ·have := e2.symm.trans hc; cases this; exact h2
 ·simp only [List.pairwise_cons, List.mem_singleton, forall_eq, List.not_mem_nil, false_implies, implies_true, List.Pairwise.nil, and_true]
  intro c hc hc2
  have a := e1.symm.trans hc
  have b := e2.symm.trans hc2
  cases a; cases b; exact hne rfl
theorem Ip {m : Int} (h : 2 ≤ m ∧ m ≤ 8) : IntKind.i64.wrap (m - 1) = m - 1 := wrap_i64 (by omega) (by omega)
theorem KC {c : Cfg} {id : Int} {k : Chk} (h : FK c id k = true) : Al c = true ∧ (0 ≤ id ∧ id < c.m) ∧ BW c k = true := by
 unfold FK at h
 rw [Bool.and_eq_true, Bool.and_eq_true] at h
 obtain ⟨⟨h1, h2⟩, h3⟩ := h
 obtain ⟨hm, _⟩ := AX h1
 rw [Ip hm, within_iff] at h2
 exact ⟨h1, by omega, h3⟩
theorem gI (H : Heap) (c : Cfg) (rv w v : V) (id : Int) (k : Chk) (hr : Rows H rv c.rows) (hk : KAt H w v k) (hc : c.Fit) (hf : k.Fit) :
  ∃ a b H', Call Tryz.prog 93 [.agg (BJ c rv), .int .i64 id, .agg (kC w v k)] H (.tup [.agg (kC a b (Cs c id k).1), .int .i64 (Cs c id k).2]) H' ∧ Mem H H' [.own 1 AH a (Cs c id k).1.ws, .own 1 AH b (Cs c id k).1.vs] := by
 have l1 := hc.rows
 have l2 := hc.row
 have l3 := hf.ws
 have l4 := hf.vs
 have bad : ∀ e, ((FK c id k) = false ∧ e = 2100) ∨ ((FK c id k) = true ∧ decide (k.t ≥ c.total) = true ∧ e = 2101) → ∃ a b H', Call Tryz.prog 93 [.agg (BJ c rv), .int .i64 id, .agg (kC w v k)] H (.tup [.agg (kC a b FP), .int .i64 e]) H' ∧ Mem H H' [.own 1 AH a FP.ws, .own 1 AH b FP.vs] := fun e he =>
  ⟨.AN, .AN, H, bN H c rv w v k.ws k.vs id k.r k.m k.t e hr hk.ws hk.vs (by omega) (fun r h => by have := l2 r h; omega) (by omega) (by omega) he, ((Mem.start H).nil 1 AH).nil 1 AH⟩
 unfold Cs
 cases hok : FK c id k with
 | false => exact bad 2100 (.inl ⟨hok, rfl⟩)
 | true =>
  by_cases ht : k.t ≥ c.total
  ·simp only [ht, if_true]
   exact bad 2101 (.inr ⟨hok, decide_eq_true ht, rfl⟩)
  ·obtain ⟨h1, h2, h3⟩ := KC hok
   obtain ⟨u1, u2, H', b1, b2, c1, hp, e1, e2, hne, o1, o2⟩ := ZK H c rv w v k.ws k.vs id k.r k.m k.t hr hk.ws hk.vs h1 h2 h3 (by omega)
   simp only [ht, if_true, if_false]
   exact ⟨u1, u2, H', c1, cK hp e1 e2 hne o1 o2⟩
def EY (v : V) (rv : List (V × Int)) (rs : List (List Int × Int)) : Fact where
 S c := v.blk = some c ∨ ∃ q ∈ rv, q.1.blk = some c
 p H := Sl 2 Dg H v rv ∧ Lq H rv rs
 st H H' h hf := ⟨h.1.fr fun c _ hc => hf c (.inl hc), h.2.1, fun k q r hq hr => ⟨(h.2.2 k q r hq hr).1.fr fun c _ hc => hf c (.inr ⟨q, List.mem_iff_getElem?.2 ⟨k, hq⟩, hc⟩), (h.2.2 k q r hq hr).2⟩⟩
 lt H c h hc := by
  rcases hc with hc | ⟨q, hq, hc⟩
  ·exact h.1.lt hc
  ·obtain ⟨k, hk⟩ := List.mem_iff_getElem?.1 hq
   obtain ⟨r, hr⟩ : ∃ r, rs[k]? = some r := ⟨rs[k]'(by have := (List.getElem?_eq_some_iff.1 hk).1; have := h.2.1; omega), by simp⟩
   exact (h.2.2 k q r hk hr).1.lt hc
theorem Jl {H : Heap} {v : V} {rv : List (V × Int)} {rs : List (List Int × Int)} (h : (EY v rv rs).p H) : Rows H v rs := ⟨rv, h.1, h.2⟩
theorem Mg.mem {B H : Heap} {v : V} {rs : List (List Int × Int)} (h : Mg B H v rs) : ∃ rv, Mem B H [.ro (EY v rv rs)] := by
 obtain ⟨rv, h1, h2, h3⟩ := h
 refine ⟨rv, Mem.eM h1.1 ⟨h1.sl, h2⟩ fun c hc => ?_⟩
 rcases hc with hc | ⟨q, hq, hc⟩
 ·exact (h1.blk hc).1
 ·exact h3 q hq c hc
def Held (p : Prop) : Prop := p
def Bv : Cfg := ⟨2, 1, 1, [([65536], 32768), ([-65536], 0)], 7, 3, 1, 1, true⟩
theorem IJ : Al Bv = true := by decide +kernel
theorem Jo : Bv.Fit := ⟨by decide, fun r hr => by
 rcases List.mem_cons.1 hr with rfl | hr
 ·simp
 ·rcases List.mem_cons.1 hr with rfl | hr
  ·simp
  ·cases hr⟩
def CQ (c : Cfg) (id : Int) : Chk := ⟨Dl c id, FC c, FB c id, firstM c id, 0⟩
abbrev mC (w v : V) (k : Chk) (h : Int) : List V := [w, v, .int .i64 k.r, .int .i64 k.m, .int .i64 k.t, .int .i64 h]
theorem YE {ws vs : List Int} {r m t t' : Int} (h : CT ws vs r m t = true) (ht : 0 ≤ t' ∧ t' ≤ 32) : CT ws vs r m t' = true := by
 unfold CT at h ⊢
 simp only [Bool.and_eq_true, decide_eq_true_eq] at h ⊢
 exact ⟨⟨h.1.1, ht.1⟩, ht.2⟩
theorem Vj {c : Cfg} {k : Chk} {t : Int} (h : BW c k = true) (ht : 0 ≤ t ∧ t ≤ 32) : BW c { k with t := t } = true := by
 unfold BW BI at h ⊢
 rw [Bool.and_eq_true] at h ⊢
 exact ⟨YE h.1 ht, h.2⟩
theorem Ff {c : Cfg} (hc : Al c = true) (id : Int) : BW c (CQ c id) = true := KP hc id
theorem Di {c : Cfg} {k : Chk} (h : BW c k = true) : k.Fit := by
 unfold BW BI at h
 rw [Bool.and_eq_true] at h
 obtain ⟨a, b, l, _⟩ := Bo h.1
 have := BP a
 have := BP b
 exact ⟨by omega, by omega⟩
theorem PF {c : Cfg} {id : Int} {k : Chk} (hc : Al c = true) (hid : 0 ≤ id ∧ id < c.m) (hk : BW c k = true) : FK c id k = true := by
 obtain ⟨hm, _⟩ := AX hc
 unfold FK
 rw [hc, hk, Ip hm, within_iff.2 ⟨hid.1, by omega⟩]; rfl
theorem IM {c : Cfg} {id : Int} {k : Chk} (hc : Al c = true) (hid : 0 ≤ id ∧ id < c.m) (hk : BW c k = true) (ht : k.t < c.total) : Cs c id k = (Dm c id k, 0) := by
 unfold Cs
 rw [if_pos (PF hc hid hk), if_neg (by omega)]
theorem Ja {c : Cfg} {id : Int} {k : Chk} (hc : Al c = true) (hid : 0 ≤ id ∧ id < c.m) (hk : BW c k = true) (ht : c.total ≤ k.t) : Cs c id k = (FP, 2101) := by
 unfold Cs
 rw [if_pos (PF hc hid hk), if_pos ht]
theorem Zf (H : Heap) (w v w' v' : V) (k k' : Chk) (h : KAt H w v k) (h' : KAt H w' v' k') (hf : k.Fit) :
  Call Tryz.prog 61 [.agg (kC w v k), .agg (kC w' v' k')] H (.bool (kEq k k')) H := by
 have l1 := hf.ws
 have l2 := hf.vs
 exact Uu H w v w' v' k.ws k.vs k'.ws k'.vs k.r k.m k.t k'.r k'.m k'.t h.ws h.vs h'.ws h'.vs (by omega) (by omega)
theorem Wg (x : Int) (j : Nat) (h : 8 * j + 8 ≤ 64) : (x.fdiv (2 ^ min (8 * j) IntKind.i64.bits)).fdiv (2 ^ (min ((8 : Int).toNat) IntKind.i64.bits)) = x.fdiv (2 ^ min (8 * (j + 1)) IntKind.i64.bits) := by
 have e1 : min (8 * j) IntKind.i64.bits = 8 * j := by simp [IntKind.bits]; omega
 have e2 : min ((8 : Int).toNat) IntKind.i64.bits = 8 := by decide
 have e3 : min (8 * (j + 1)) IntKind.i64.bits = 8 * j + 8 := by simp [IntKind.bits]; omega
 rw [e1, e2, e3]
 have p1 : (0 : Int) ≤ 2 ^ (8 * j) := Int.pow_nonneg (by decide)
 have p2 : (0 : Int) ≤ 2 ^ 8 := by decide
 rw [Int.fdiv_eq_ediv_of_nonneg _ p1, Int.fdiv_eq_ediv_of_nonneg _ p2, Int.fdiv_eq_ediv_of_nonneg _ (Int.pow_nonneg (by decide)), Int.ediv_ediv_of_nonneg p1, Int.pow_add]
theorem Ww (x : Int) (k : Nat) : Bm x k ++ [Ds x k] = Bm x (k + 1) := by unfold Bm; rw [List.range_succ, List.map_append]; rfl
theorem iE (B H : Heap) (L : List Res) (f : Res → List Res) (v : V) (bs : List Int) (x : Int) (hM : Mem B H L) (hh : Has L (.own 1 EO v bs) f) (hl : bs.length ≤ 1000) :
  ∃ w H', Call Tryz.prog 206 [v, .int .i64 x] H w H' ∧ Mem B H' (f (.own 1 EO w (bs ++ Bm x 4))) := by
 refine CO fit mixed hM Tryz.func206 rfl rfl rfl (by kernel_rfl) fun _ => ?_
 refine goM ?_
 refine AT (fun m ρ hp => ∃ (j : Nat) (u : V) (L' : List Res), j ≤ 4 ∧ m = 4 - j ∧ Mem B hp L' ∧ Has L' (.own 1 EO u (bs ++ Bm x j)) f ∧ ρ 0 = u ∧ ρ 1 = .int .i64 (x.fdiv (2 ^ min (8 * j) IntKind.i64.bits)) ∧ ρ 5 = .int .i64 (j : Int)) ⟨0, v, L, Nat.zero_le _, rfl, hM, by simpa [Bm] using hh, rfl, ?_, rfl⟩ ?_
 ·show V.int .i64 x = _
  congr 1
  simp [Int.fdiv_one]
 clear hM hh
 rintro _ ρ hp ⟨j, u, L', hj, rfl, hM, hh, h0, h1, h5⟩
 refine goM ?_
 refine AE (fun hb => ?_) (fun hb => ?_)
 ·have h4 : ((j : Int) < 4) := by simpa using hb
  have hj' : j < 4 := by omega
  clear hb h4
  have hst := Wg x j (by omega)
  have hwj := AG (n := j) (by omega)
  have hbl : (bs ++ Bm x j).length = bs.length + j := by rw [List.length_append, CD]
  have hlk : IntKind.u8.wrap (x.fdiv (2 ^ min (8 * j) IntKind.i64.bits)) = Ds x j := rfl
  obtain ⟨s, hs⟩ : ∃ s, x.fdiv (2 ^ min (8 * j) IntKind.i64.bits) = s := ⟨_, rfl⟩
  rw [hs] at hst h1 hlk
  have hsh : vbin T .shr 3 (.int .i64 s) (.int .u64 8) = some (.int .i64 (x.fdiv (2 ^ min (8 * (j + 1)) IntKind.i64.bits))) := by
   simp only [vbin, shiftBin]
   rw [if_neg (by decide), hst]
  clear hst hs
  refine goM ?_
  refine Aa EO [Ds x j] [.int .u8 (Ds x j)] T68 rfl T5 rfl (Cells.one (sz := 1) rfl rfl) (by decide) fun e1 H1 hM => ?_
  refine goM ?_
  refine Bg (hM.sl .here) (xs := bs ++ Bm x j) (hh := .there hh) (hb := by rw [hbl]; simp only [List.length_cons, List.length_nil]; omega) fun u2 H2 hM => ?_
  replace hM := hM.drop
  rw [List.append_assoc, Ww] at hM
  repeat (first | (refine Bs ?_; refine BC (EC eLk eLk hsh) ?_) | (refine Bs ?_; refine OE ?_) | (refine Bz ?_; refine Nq ?_) | (refine CG ?_; first | refine BO ?_ | refine At ?_ | refine KU ?_) | (refine CF ?_; first | refine BS ?_ | refine Aw ?_ | refine KJ ?_) | (refine IU ?_; first | refine Gc ?_ | refine IT ?_) | refine AO ?_ | refine AK ?_ | refine Ae (by decide +kernel) ?_ | refine AW ?_ | refine BN ?_ | refine BM ?_ | refine Ah ?_ | refine As ?_ | refine Ag ?_ | refine AR ?_ | refine Ar ?_ | refine Ad ?_ | refine AS ?_ | refine Aq ?_ | refine Ac ?_ | refine AV rfl ?_)
  exact ⟨4 - (j + 1), by omega, j + 1, u2, _, hj', rfl, hM, hh.again _, by simp [AD, AB, *]⟩
 ·have h4 : ¬ ((j : Int) < 4) := by simpa using hb
  have hj' : j = 4 := by omega
  subst hj'
  clear hb h4
  refine goM ?_
  refine AY ?_
  rw [hh.same]; exact hM
theorem QU (n : Nat) : (Bw [V.int .i64 0] n).length = n := by
 unfold Bw
 induction n with
 | zero => rfl
 | succ n ih => rw [List.replicate_succ, List.flatten_cons, List.length_append, ih]; simp; omega
theorem ZE (o : Option TI) (ho : o = some { k := .int .i64, size := 1, bytes := 8, zero := [.int .i64 0] }) (H : Heap) (n : Nat) (h2 : n ≤ 1000) : newsOf T o.get! 3 (.int .i64 (n : Int)) H = some (n, Bw [V.int .i64 0] n) := by
 subst ho
 unfold newsOf
 simp only [T3]
 split
 ·simp
 ·rename_i h
  exact absurd ⟨by omega, by show (n : Int) * (8 : Nat) ≤ _; omega, by simp only [IntKind.max, IntKind.signed, IntKind.bits]; simp; omega⟩ h
theorem Tu (o : Option TI) (ho : o = some { k := .int .i64, size := 1, bytes := 8, zero := [.int .i64 0] }) (H : Heap) (n : Nat) (h1 : 1 ≤ n) (h2 : n ≤ 1000) : appendV o.get! .AN n (Bw [V.int .i64 0] n) H = some (.slc H.length 0 n n false 1, H ++ [.row (Bw [V.int .i64 0] n) true]) := by
 subst ho
 show appendV { k := .int .i64, size := 1, bytes := 8, zero := [.int .i64 0] } .AN n (Bw [V.int .i64 0] n) H = _
 unfold appendV
 rw [if_neg (by rw [QU]; simp)]
 simp only
 rw [if_neg (by omega), if_pos ⟨by omega, by omega⟩]
theorem gA (H : Heap) (n : Nat) (h1 : 1 ≤ n) (h2 : n ≤ 1000) : ∃ w H', Call Tryz.prog 230 [.AN, .int .i64 (n : Int)] H w H' ∧ Mem H H' [.own 1 AH w []] := by
 refine Ao fit mixed Tryz.func230 rfl rfl rfl (by kernel_rfl) fun hM => ?_
 have d1 : decide ((n : Int) < 0) = false := decide_eq_false (by omega)
 have d2 : decide ((n : Int) > 0) = true := decide_eq_true (by omega)
 have w0 : IntKind.i64.wrap ((0 : Int) - 0) = 0 := rfl
 have w1 : IntKind.i64.wrap ((n : Int) - 0) = (n : Int) := by rw [Int.sub_zero]; exact Am (by omega)
 have hn := ZE (T 3) T3 H n h2
 have ha := Tu (T 3) T3 H n h1 h2
 have hM2 : Mem H (H ++ [.row (Bw [V.int .i64 0] n) true]) [.own 1 AH (.slc H.length 0 0 n false 1) ([] : List Int)] := by
  refine BR.mem ⟨List.prefix_append _ _, .inr ⟨H.length, Nat.le_refl _, n, false, _, rfl, Nat.zero_le _, by simp; rfl, by rw [QU]; omega, by simp, ?_⟩⟩
  simpa using Cells.nil (R := AH) (sz := 1)
 have hsl : sliceV 1 (.slc H.length 0 n n false 1) none (some (.int .i64 0)) none = some (.slc H.length 0 0 n false 1) := by
  simp [sliceV, boundV, V.asIdx]
 clear hM
 refine goM ?_
 refine EG hn ha ?_
 refine goM ?_
 exact AY hM2
def ZJ (cs : List V) (v : V) : Prop := cs = [v]
theorem Pj {xss : List (List Int)} {k : Nat} {xs : List Int} (h : xss[k]? = some xs) : (xss.take (k + 1)).flatten = (xss.take k).flatten ++ xs := by
 rw [List.take_add_one, h]; simp
theorem aS (xss : List (List Int)) : ∀ k, (xss.take k).flatten.length ≤ xss.flatten.length := fun k => by
 have h : xss.flatten = (xss.take k).flatten ++ (xss.drop k).flatten := by rw [← List.flatten_append, List.take_append_drop]
 rw [h, List.length_append]; omega
theorem aJ (H : Heap) (v : V) (us : List V) (xss : List (List Int)) (n : Nat) (hv : Sl 1 ZJ H v us) (hl : us.length = xss.length) (hl2 : us.length ≤ 100) (hall : ∀ (k : Nat) u xs, us[k]? = some u → xss[k]? = some xs → Sl 1 AH H u xs) (hn : xss.flatten.length = n) (h1 : 1 ≤ n) (h2 : n ≤ 1000) :
  ∃ w H', Call Tryz.prog 205 [v] H w H' ∧ Mem H H' [.own 1 AH w xss.flatten] := by
 have s0 := hv.cells
 have hlen := hv.len QX rfl
 obtain ⟨q, hq⟩ : ∃ q, us.length = q := ⟨_, rfl⟩
 rw [hq] at hlen hl hl2
 have hl3 := hl.symm
 clear hl
 have hfl := aS xss
 rw [hn] at hfl
 refine Ao fit mixed Tryz.func205 rfl rfl rfl (by kernel_rfl) fun hM => ?_
 refine goM ?_
 refine AT (fun m ρ hp => ∃ k : Nat, k ≤ q ∧ m = q - k ∧ hp = H ∧ ρ 0 = v ∧ ρ 3 = .int .i64 ((xss.take k).flatten.length : Nat) ∧ ρ 9 = v ∧ ρ 10 = .int .i64 (q : Int) ∧ ρ 11 = .int .i64 (k : Int)) ⟨0, Nat.zero_le _, by omega, rfl, rfl, by simp [AD, AB, *], by simp [AD, AB, *], by simp [AD, AB, *], by simp [AD, AB, *]⟩ ?_
 rintro _ ρ hp ⟨k, hk, rfl, hpe, g0, g3, g9, g10, g11⟩
 subst hpe
 refine goM ?_
 refine AE (fun hb => ?_) (fun hb => ?_)
 ·have hk' : k < q := by simpa using hb
  clear hb
  obtain ⟨u, hu⟩ : ∃ u, us[k]? = some u := ⟨us[k]'(by omega), by simp⟩
  obtain ⟨xs, hxs⟩ : ∃ xs, xss[k]? = some xs := ⟨xss[k]'(by omega), by simp⟩
  have hxl := (hall k u xs hu hxs).len T27 rfl
  obtain ⟨b1, o1, _, hi1, rfl, _, hlo1, _⟩ := hv.get QX rfl T27 rfl hu
  have ho1 := AF T27 rfl hlo1
  have hnx := Pj hxs
  have hle := hfl (k + 1)
  have hsum : IntKind.i64.wrap (((xss.take k).flatten.length : Int) + (xs.length : Int)) = ((xss.take (k + 1)).flatten.length : Int) := by
   rw [hnx, List.length_append] at hle ⊢
   rw [wrap_i64 (by omega) (by omega)]; omega
  have d1 : decide (((xss.take (k + 1)).flatten.length : Int) < 0) = false := decide_eq_false (by omega)
  have hw := AG (n := k) (by omega)
  clear hlo1 hnx hle hxs hu
  refine goM ?_
  exact ⟨q - (k + 1), by omega, k + 1, hk', rfl, rfl, by simp [AD, AB, *]⟩
 ·have hk' : k = q := by have : ¬ k < q := by simpa using hb
                         omega
  subst hk'
  clear hb
  rw [List.take_of_length_le (by omega), hn] at g3
  obtain ⟨u0, H1, c1, m1⟩ := gA hp n h1 h2
  refine goM ?_
  refine AA c1 ?_
  clear c1 hM
  refine goM ?_
  refine AT (fun m ρ hp' => ∃ (j : Nat) (u : V), j ≤ k ∧ m = k - j ∧ Mem hp hp' [.own 1 AH u (xss.take j).flatten] ∧ ρ 6 = u ∧ ρ 25 = v ∧ ρ 26 = .int .i64 (k : Int) ∧ ρ 27 = .int .i64 (j : Int)) ⟨0, u0, Nat.zero_le _, rfl, m1, by simp [AD, AB], by simp [AD, AB, *], by simp [AD, AB, *], by simp [AD, AB]⟩ ?_
  clear g0 g3 g9 g10 g11 m1
  clear ρ
  rintro _ ρ hp' ⟨j, u, hj, rfl, hM, g6, g25, g26, g27⟩
  refine goM ?_
  refine AE (fun hb => ?_) (fun hb => ?_)
  ·have hj' : j < k := by simpa using hb
   clear hb
   obtain ⟨w, hw'⟩ : ∃ u, us[j]? = some u := ⟨us[j]'(by omega), by simp⟩
   obtain ⟨xs, hxs⟩ : ∃ xs, xss[j]? = some xs := ⟨xss[j]'(by omega), by simp⟩
   have hws := (hall j w xs hw' hxs).mono hM.pre
   obtain ⟨b1, o1, _, hi1, rfl, _, hlo1, _⟩ := (hv.mono hM.pre).get QX rfl T27 rfl hw'
   have ho1 := AF T27 rfl hlo1
   have hnx := Pj hxs
   have hle := hfl (j + 1)
   rw [hnx, List.length_append] at hle
   have hwj := AG (n := j) (by omega)
   clear hlo1 hxs hw'
   refine goM ?_
   refine Bg hws (xs := (xss.take j).flatten) (hb := ⟨by show _ * 8 ≤ _; omega, by omega⟩) fun u2 H2 hM => ?_
   rw [← hnx] at hM
   refine goM ?_
   exact ⟨k - (j + 1), by omega, j + 1, u2, hj', rfl, hM, by simp [AD, AB, *]⟩
  ·have hj' : j = k := by have : ¬ j < k := by simpa using hb
                          omega
   subst hj'
   clear hb
   rw [List.take_of_length_le (by omega)] at hM
   refine goM ?_
   exact AY hM
end Go.Proofs.YtncjbjlmgnjhiaaGreat.VM
