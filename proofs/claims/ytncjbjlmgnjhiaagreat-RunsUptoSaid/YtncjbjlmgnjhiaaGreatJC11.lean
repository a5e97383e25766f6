/- Joined texts: StepB, StepC, StepE, StepD, StepF, StepG, CtlI, StepK, StepM, RunP, RunQ, RunA. -/
import Derived.Test.YtncjbjlmgnjhiaaGreatJC3
import Derived.Test.YtncjbjlmgnjhiaaGreatJC4
import Derived.Test.YtncjbjlmgnjhiaaGreatJC8
import Derived.Test.YtncjbjlmgnjhiaaGreatJC9
import Derived.Test.YtncjbjlmgnjhiaaGreatJC10
namespace Go.Proofs.YtncjbjlmgnjhiaaGreat.VM
open Go
set_option linter.unusedVariables false
set_option linter.unusedSimpArgs false
attribute [local irreducible] wq wqL wqD wqE wqO Th Bk EndR
set_option maxHeartbeats 8000000
theorem UB (H : Heap) (v : V) (xs : List MR) (hx : Sl 6 mrC H v xs) (hl : xs.length * 80 ≤ 2 ^ 47) : ∃ w H', Call Tryz.prog 114 [v] H w H' ∧ Mem H H' [.own 6 mrC w xs] := by
 refine Ao fit mixed Tryz.func114 rfl rfl rfl (by kernel_rfl) fun hM => ?_
 rcases hx with ⟨rfl, rfl⟩ | ⟨b, off, cap, t, cs, wr, rfl, h1, h2, h3, h4⟩
 ·refine goM ?_
  exact AY (hM.nil 6 mrC)
 ·have hx : Sl 6 mrC H (.slc b off xs.length cap t 6) xs := .inr ⟨b, off, cap, t, cs, wr, rfl, h1, h2, h3, h4⟩
  clear h1 h2 h3 h4
  refine goM ?_
  refine Aa (sz := 6) mrC [] [] T28 rfl T84 rfl (Hm []) (by decide) fun e1 H3 hM => ?_
  refine goM ?_
  refine Bg (hx.mono hM.pre) (xs := []) (hb := by simp only [List.length_nil]; show (0 + xs.length) * 80 ≤ _ ∧ _; omega) fun a H4 hM => ?_
  refine goM ?_
  exact AY hM
theorem WY (H : Heap) (v : V) (xs : List Ev) (hx : Sl 6 evC H v xs) (hl : xs.length * 48 ≤ 2 ^ 47) : ∃ w H', Call Tryz.prog 116 [v] H w H' ∧ Mem H H' [.own 6 evC w xs] := by
 refine Ao fit mixed Tryz.func116 rfl rfl rfl (by kernel_rfl) fun hM => ?_
 rcases hx with ⟨rfl, rfl⟩ | ⟨b, off, cap, t, cs, wr, rfl, h1, h2, h3, h4⟩
 ·refine goM ?_
  exact AY (hM.nil 6 evC)
 ·have hx : Sl 6 evC H (.slc b off xs.length cap t 6) xs := .inr ⟨b, off, cap, t, cs, wr, rfl, h1, h2, h3, h4⟩
  clear h1 h2 h3 h4
  refine goM ?_
  refine Aa (sz := 6) evC [] [] T29 rfl GY rfl Cells.nil (by decide) fun e1 H3 hM => ?_
  refine goM ?_
  refine Bg (hx.mono hM.pre) (xs := []) (hb := by simp only [List.length_nil]; show (0 + xs.length) * 48 ≤ _ ∧ _; omega) fun a H4 hM => ?_
  refine goM ?_
  exact AY hM
theorem Sr (H : Heap) (w v : V) (k : Chk) (hd : Int) (hk : KAt H w v k) (hf : k.Fit) : ∃ u H', Call Tryz.prog 115 [.agg (mC w v k hd)] H u H' ∧ ∃ a b, u = .agg (mC a b k hd) ∧ Mem H H' [.own 1 AH b k.vs, .own 1 AH a k.ws] := by
 have s1 := hk.ws.cells
 have s2 := hk.vs.cells
 refine Ao fit mixed Tryz.func115 rfl rfl rfl (by kernel_rfl) fun hM => ?_
 refine AO (AK ?_)
 refine Ax T84 fun b1 H1 hM => ?_
 refine Aj (cs := Dr) T84 rfl fun b2 H2 hM => ?_
 refine goM ?_
 obtain ⟨_, H3, c1, a, b, rfl, m1⟩ := KF H2 w v k (hk.mono hM.pre) hf
 refine AA c1 ?_
 have s3 := (m1.sl .here).cells
 have s4 := (m1.sl (.there .here)).cells
 replace hM := hM.call2 m1
 clear c1 m1
 refine goM ?_
 refine AM T82 fun H4 hM => ?_
 refine goM ?_
 refine AM T84 fun H5 hM => ?_
 refine goM ?_
 exact AY ⟨a, b, rfl, hM.Ea⟩
theorem Fy {B H : Heap} {L : List Res} {f : Res → List Res} {u : V} {ys : List MR} (hM : Mem B H L) (hh : Has L (.own 6 mrC u ys) f) {k : Nat} {y : MR} (hp : ys[k]? = some y) {b o : Nat} (hi : idxV T 28 u (k : Int) = some (.ptr b o))
  (off : Nat) {te : Nat} {it : TI} (hTe : T te = some it) (hoff : off + it.size ≤ 6) {w : V} {y' : MR} (hw : w.isTup = false) (hl : w.cells.length = it.size) (hs : setL (mC y.w y.v y.k y.h) off w.cells = mC y'.w y'.v y'.k y'.h) :
  ∃ H', storeV T te H b (o + off) w = some H' ∧ Mem B H' (f (.own 6 mrC u (ys.set k y'))) := by
 obtain ⟨b', hix, hput⟩ := hM.elemAt hh T28 rfl T84 rfl hp off hTe hoff
 rw [hi] at hix
 cases hix
 exact hput w y' hw hl fun cs hl hR => by rw [hR]; exact hs
theorem Fj {H : Heap} {v : V} {xs : List MR} (h : Sl 6 mrC H v xs) {j b o : Nat} {x : MR} (hi : idxV T 28 v (j : Int) = some (.ptr b o)) (hx : xs[j]? = some x) :
  loadV T 82 H b o = some (.agg (kC x.w x.v x.k)) ∧ loadV T 80 H b (o + 2) = some (.agg [.int .i64 x.k.r, .int .i64 x.k.m]) ∧ loadV T 3 H b (o + 4) = some (.int .i64 x.k.t) ∧ loadV T 3 H b (o + 5) = some (.int .i64 x.h) := by
 obtain ⟨b', o', cs, hi', hc, _, hlo, hlc⟩ := h.get T28 rfl T84 rfl hx
 rw [hi] at hi'
 cases hi'
 rw [hc] at hlo hlc
 exact ⟨AZ T82 rfl (JL (j := 0) (n := 5) hlo (by decide)), AZ T80 rfl (JL (j := 2) (n := 2) hlo (by decide)), AF T3 rfl (hlc 4 _ rfl), AF T3 rfl (hlc 5 _ rfl)⟩
theorem Zh {α : Type} {l : List α} {k : Nat} {a : α} (h : l[k]? = some a) : l.set k a = l := by
 apply List.ext_getElem?
 intro j
 rw [List.getElem?_set]
 by_cases hj : k = j
 ·subst hj
  rw [if_pos rfl, if_pos (List.getElem?_eq_some_iff.1 h).1, h]
 ·rw [if_neg hj]
structure fM (xs ys : List MR) (k : Nat) : Prop where
 len : ys.length = xs.length
 old : ∀ j, k ≤ j → ys[j]? = xs[j]?
 val : ys.map MR.val = xs.map MR.val
theorem Kt (H : Heap) (s : St) (rv mv ev sv : V) (xs : List MR) (ha : Da H rv mv ev sv xs s) (hf : s.Fit) (hl64 : s.st.length ≤ 64) :
  ∃ w H', Call Tryz.prog 55 [.agg (stC s.c rv mv ev sv)] H w H' ∧ ∃ u mv' ev' sv' rvs xs', w = .agg (stC s.c u mv' ev' sv') ∧ Jr rvs s.c.rows ∧ xs'.map MR.val = s.ms ∧ Mem H H' (Cz u mv' ev' sv' rvs xs' s) := by
 have z1 : rv.cells = [rv] ∧ rv.isTup = false := by obtain ⟨_, h, _⟩ := ha.rows; exact h.cells
 have z2 := ha.ms.cells
 have z3 := ha.es.cells
 have z4 := ha.st.cells
 have l4 := hf.es
 have l5 := hf.st
 have hkx := hf.kx ha
 have hnb : xs.length * 80 ≤ 140737488351232 := by have := hf.ms; rw [ha.len]; exact this
 refine Ao fit mixed Tryz.func55 rfl rfl rfl (by kernel_rfl) fun hM => ?_
 refine AO (AK ?_)
 refine Ax T32 fun b1 H1 hM => ?_
 refine Aj (cs := Au) T32 rfl fun b2 H2 hM => ?_
 obtain ⟨n, hn⟩ : ∃ n, xs.length = n := ⟨_, rfl⟩
 refine goM ?_
 obtain ⟨_, H3, c1, u, rvs, rfl, hlk, m1⟩ := Mi H2 s.c rv (ha.rows.mono hM.pre) hf.c
 refine Be c1 (.inl m1.pre) ?_
 have s7 : u.cells = [u] ∧ u.isTup = false := by obtain ⟨_, h, _⟩ := DL (m1.fact .here) hlk; exact h.cells
 replace hM := hM.BH m1
 clear c1 m1
 refine goM ?_
 obtain ⟨v, H4, c1, m1⟩ := UB H3 mv xs (ha.ms.mono hM.pre) (by omega)
 refine Be c1 (.inl m1.pre) ?_
 have s8 := (m1.sl .here).cells
 have hlen := (m1.sl .here).len T28 rfl
 rw [hn] at hlen
 replace hM := hM.BH m1
 clear c1 m1
 refine goM ?_
 refine DT T26 fun H5 hM => ?_
 refine goM ?_
 refine DT T28 fun H6 hM => ?_
 refine goM ?_
 have hM0 : Mem H H6 [.ro (pack (Bn (xs.take 0))), .own 6 mrC v xs, .ro (pack (Bl u rvs s.c.rows)), .box b2 Au, .box b1 (stC s.c u v ev sv)] := Mem.packed (L := []) hM
 refine AT (fun cc ρ h => ∃ (k : Nat) (ys : List MR), k ≤ n ∧ cc = n - k ∧ fM xs ys k ∧ Mem H h [.ro (pack (Bn (ys.take k))), .own 6 mrC v ys, .ro (pack (Bl u rvs s.c.rows)), .box b2 Au, .box b1 (stC s.c u v ev sv)] ∧ ρ 1 = .ptr b1 0 ∧ ρ 2 = .ptr b2 0 ∧ ρ 14 = .int .i64 (n : Int) ∧ ρ 15 = .int .i64 (k : Int)) ⟨0, xs, Nat.zero_le _, rfl, ⟨rfl, fun _ _ => rfl, rfl⟩, hM0, by simp [AD, AB, BT, *]⟩ ?_
 repeat clear hM
 clear hM0 hlen
 rintro _ ρ h ⟨k, ys, hk, rfl, hmk, hM, g1, g2, g14, g15⟩
 refine goM ?_
 refine AE (fun hb => ?_) (fun hb => ?_)
 ·have hk' : k < n := by simpa using hb
  clear hb
  have hyl := hmk.len
  obtain ⟨x, hx⟩ : ∃ x, ys[k]? = some x := ⟨ys[k]'(by omega), by simp⟩
  have hxx : xs[k]? = some x := by rw [← hmk.old k (Nat.le_refl _)]; exact hx
  have hka := ha.ks x (List.mem_of_getElem? hxx)
  have hkf := hkx x (List.mem_of_getElem? hxx)
  obtain ⟨bo, o, hi, lo, _, _⟩ := EM (hM.sl (v := v) (xs := ys) hsG) hx
  have s1 := hka.ws.cells
  have s2 := hka.vs.cells
  have hw := AG (n := k) (by omega)
  obtain ⟨_, H7, c1, a, b', rfl, m1⟩ := Sr h x.w x.v x.k x.h (hka.mono hM.pre) hkf
  have hM7 := hM.call2 m1
  obtain ⟨H8, st, hM8⟩ := Fy hM7 (u := v) (ys := ys) hsG hx hi 0 T84 (by decide) (w := .agg (mC a b' x.k x.h)) (y' := ⟨a, b', x.k, x.h⟩) rfl rfl rfl
  rw [Nat.add_zero] at st
  have hm1 := ((hM8.front (r := .ro (pack (Bn (ys.take k)))) tkG).front (r := .own 1 AH b' x.k.vs) tkG).front (r := .own 1 AH a x.k.ws) tkG
  have hm2 := Mem.JN (x := ⟨a, b', x.k, x.h⟩) hm1
  have hmk2 : fM xs (ys.set k ⟨a, b', x.k, x.h⟩) (k + 1) := ⟨by rw [List.length_set]; exact hyl, fun j hj => by rw [List.getElem?_set_ne (by omega)]; exact hmk.old j (by omega), by
   rw [List.map_set, ← hmk.val]
   exact Zh (by rw [List.getElem?_map, hx]; rfl)⟩
  have htk : ys.take k ++ [⟨a, b', x.k, x.h⟩] = (ys.set k ⟨a, b', x.k, x.h⟩).take (k + 1) := by
   rw [List.take_add_one, List.getElem?_set_self (by omega), List.take_set_of_le (Nat.le_refl _)]; rfl
  rw [htk] at hm2
  clear hm1 htk hM8 hM7 hx hxx hmk
  refine goM ?_
  refine Be c1 (.inl m1.pre) ?_
  replace hM := hM.call2 m1
  clear c1 m1
  refine goM ?_
  refine Jx st ?_
  clear hM
  refine goM ?_
  exact ⟨n - (k + 1), by omega, k + 1, _, hk', rfl, hmk2, hm2.sub sbG, by simp [AD, AB, *]⟩
 ·have hk' : k = n := by have : ¬ k < n := by simpa using hb
                         omega
  subst hk'
  clear hb
  have hyl := hmk.len
  have hyv := hmk.val
  rw [List.take_of_length_le (by omega)] at hM
  rw [ha.val] at hyv
  clear hmk
  refine goM ?_
  obtain ⟨ev', H7, c1, m1⟩ := WY h ev s.es (ha.es.mono hM.pre) (by omega)
  refine Be c1 (.inl m1.pre) ?_
  have s5 := (m1.sl .here).cells
  replace hM := hM.BH m1
  clear c1 m1
  refine goM ?_
  obtain ⟨sv', H8, c1, m1⟩ := Jb H7 sv s.st (ha.st.mono hM.pre) hl64
  refine Be c1 (.inl m1.pre) ?_
  have s6 := (m1.sl .here).cells
  replace hM := hM.BH m1
  clear c1 m1
  refine goM ?_
  refine DT T29 fun H9 hM => ?_
  refine goM ?_
  refine DT T30 fun H10 hM => ?_
  refine goM ?_
  refine AM T32 fun H11 hM => ?_
  refine goM ?_
  refine AY ⟨u, v, ev', sv', rvs, ys, rfl, hlk, hyv, ?_⟩
  have h1 := (((hM.front (r := .own 3 BE sv' s.st) tkG).front (r := .own 6 evC ev' s.es) tkG).front (r := .own 6 mrC v ys) tkG).front (r := .ro (pack (Bn ys))) tkG
  exact (h1.front (r := .ro (pack (Bl u rvs s.c.rows))) tkG).sub (by unfold Cz; (repeat (first | exact List.Sublist.slnil | exact List.Sublist.refl _ | refine List.Sublist.cons_cons _ ?_ | refine List.Sublist.cons _ ?_)))
theorem Mem.Vt {B H : Heap} {ys : List MR} {M : List Res} {y : MR} {i : Nat} (h : Mem B H (.own 1 AH y.w y.k.ws :: .own 1 AH y.v y.k.vs :: .ro (pack (Bn ys)) :: M)) (hi : i < ys.length) : Mem B H (.ro (pack (Bn (ys.set i y))) :: M) := by
 have h1 := h.Vx.swap
 have h2 := Mem.ZZ h1 i (by unfold Bn; rw [List.length_map]; exact hi)
 have e : (Bn ys).set i (.ro (pack [.own 1 AH y.w y.k.ws, .own 1 AH y.v y.k.vs])) = Bn (ys.set i y) := by
  unfold Bn; rw [List.map_set]; rfl
 rw [e] at h2
 exact h2
theorem MJ {ys : List MR} {p q : MR} {i : Nat} (hp : ys[i]? = some p) (e1 : q.w = p.w) (e2 : q.v = p.v) (e3 : q.k.ws = p.k.ws) (e4 : q.k.vs = p.k.vs) : Bn (ys.set i q) = Bn ys := by
 unfold Bn
 rw [List.map_set]
 have : Mq q.w q.v q.k.ws q.k.vs = Mq p.w p.v p.k.ws p.k.vs := by rw [e1, e2, e3, e4]
 rw [this]
 apply List.ext_getElem?
 intro j
 rw [List.getElem?_set]
 by_cases hj : i = j
 ·subst hj
  rw [List.getElem?_map, hp]
  have := (List.getElem?_eq_some_iff.1 hp).1
  simp [this]
 ·simp [hj]
abbrev spC (c : Cfg) (rv mv ev sv : V) (p : Nat) (cb co : Nat) : List V := [.int .i64 c.m, .int .i64 c.i, .int .i64 c.h, rv, .int .i64 c.seed, .int .i64 c.total, .int .i64 c.interval, .int .i64 c.cutn, .bool c.pert, mv, ev, sv, .int .i64 p, .ptr cb co]
abbrev spM (bt : Nat) (u mv ev sv : V) (rvs : List (V × Int)) (ys : List MR) (c : Cfg) (es : List Ev) (st : List Ent) (p cb co : Nat) (L : List Res) : List Res :=
 .box bt (spC c u mv ev sv p cb co) :: .own 6 mrC mv ys :: .own 6 evC ev es :: .own 3 BE sv st :: .ro (pack (Bn ys)) :: .ro (pack (Bl u rvs c.rows)) :: L
theorem Kq (e : Ev) : Cells 6 evC (evV e) [e] := Fc (R := evC) evV (fun x => ⟨rfl, rfl⟩) [e]
theorem WM {B H : Heap} {L : List Res} {bt : Nat} {u mv ev sv : V} {rvs : List (V × Int)} {ys : List MR} {c : Cfg} {es : List Ev} {st : List Ent} {p cb co : Nat} (e : Ev) (hM : Mem B H (spM bt u mv ev sv rvs ys c es st p cb co L)) (hl : es.length ≤ 2000) :
  ∃ w H', Call Tryz.prog 94 [.ptr bt 0, .agg (evV e)] H w H' ∧ w = .tup [] ∧ ∃ ev', Mem B H' (spM bt u mv ev' sv rvs ys c (es ++ [⟨e.kind, p, e.BV, e.at_, e.rate, e.mom⟩]) st p cb co L) := by
 have s1 := (hM.sl (v := ev) (xs := es) hsG).cells
 refine CO fit mixed hM Tryz.func94 rfl rfl rfl (by kernel_rfl) fun _ => ?_
 refine AO (AK ?_)
 refine Ax GY fun b1 H1 hM => ?_
 refine goM ?_
 refine AM T3 fun H2 hM => ?_
 refine goM ?_
 refine SD evC [⟨e.kind, p, e.BV, e.at_, e.rate, e.mom⟩] (evV ⟨e.kind, p, e.BV, e.at_, e.rate, e.mom⟩) T29 rfl GY rfl (Kq _) (by decide) fun e1 H3 hM => ?_
 refine goM ?_
 refine YI (hM.sl .here) (xs := es) (hh := by (repeat (first | exact Has.here | apply Has.there))) (hb := by simp only [List.length_cons, List.length_nil]; show (es.length + 1) * 48 ≤ _ ∧ es.length + 1 ≤ _; omega) fun ev' H4 hM => ?_
 have s2 := (hM.sl (v := ev') (xs := es ++ [⟨e.kind, p, e.BV, e.at_, e.rate, e.mom⟩]) hsG).cells
 refine goM ?_
 refine DT T29 fun H5 hM => ?_
 refine goM ?_
 refine Bu (by simp only [resRf, resRs, resR]; first | done | rfl) ⟨rfl, ev', hM.Ea⟩
def cZ (c : Cfg) (y : MR) (k : Nat) : MR := ⟨y.w, y.v, ⟨y.k.ws, y.k.vs, (FL c y.k.r y.k.m k).1, (FL c y.k.r y.k.m k).2, y.k.t⟩, y.h⟩
def cY (c : Cfg) (y : MR) (k p : Nat) : Ev := ⟨2, p, 0, 0, (FL c y.k.r y.k.m k).1, (FL c y.k.r y.k.m k).2⟩
theorem YV {B H : Heap} {L : List Res} {bt : Nat} {u mv ev sv : V} {rvs : List (V × Int)} {ys : List MR} {c : Cfg} {es : List Ev} {st : List Ent} {p cb co : Nat} {y : MR} (k : Nat) (hM : Mem B H (spM bt u mv ev sv rvs ys c es st p cb co L)) (hy : ys[p]? = some y)
  (hi : idxV T 28 mv (p : Int) = some (.ptr cb co)) (hc : Al c = true) (hh : BK y.k.r y.k.m = true) (hk : k ≤ 1000000) (hl : es.length ≤ 1999) :
  ∃ w H', Call Tryz.prog 149 [.ptr bt 0, .int .i64 k] H w H' ∧ w = .tup [] ∧ ∃ ev', Mem B H' (spM bt u mv ev' sv rvs (ys.set p (cZ c y k)) c (es ++ [cY c y k p]) st p cb co L) := by
 obtain ⟨_, _, ⟨hs0, hs1⟩, _⟩ := AX hc
 have hsn : ((c.seed.toNat : Nat) : Int) = c.seed := Int.toNat_of_nonneg hs0
 have hml : p < ys.length := (List.getElem?_eq_some_iff.1 hy).1
 obtain ⟨l0, l2, l4, l5⟩ := Fj (hM.sl (v := mv) (xs := ys) hsG) hi hy
 have w1 := AG (n := k) (by omega)
 have w2 : IntKind.i64.wrap ((k : Int) + 2) = (k : Int) + 2 := wrap_i64 (by omega) (by omega)
 obtain ⟨yw, yv, yk, yh⟩ := y
 obtain ⟨kws, kvs, kr, km, kt⟩ := yk
 unfold cZ cY
 simp only at hh l0 l2 l4 l5 ⊢
 have hset : ∀ a b : Int, ∃ H1, storeV T 80 H cb (co + 2) (.agg [.int .i64 a, .int .i64 b]) = some H1 ∧ loadV T 80 H1 cb (co + 2) = some (.agg [.int .i64 a, .int .i64 b]) ∧ Mem B H1 (spM bt u mv ev sv rvs (ys.set p ⟨yw, yv, ⟨kws, kvs, a, b, kt⟩, yh⟩) c es st p cb co L) := fun a b => by
  obtain ⟨H1, st1, hM1⟩ := Fy hM (u := mv) (ys := ys) hsG hy hi 2 T80 (by decide) (w := .agg [.int .i64 a, .int .i64 b]) (y' := ⟨yw, yv, ⟨kws, kvs, a, b, kt⟩, yh⟩) rfl rfl rfl
  have hy1 : (ys.set p ⟨yw, yv, ⟨kws, kvs, a, b, kt⟩, yh⟩)[p]? = some ⟨yw, yv, ⟨kws, kvs, a, b, kt⟩, yh⟩ := List.getElem?_set_self hml
  obtain ⟨_, g2, _⟩ := Fj (hM1.sl (v := mv) (xs := ys.set p ⟨yw, yv, ⟨kws, kvs, a, b, kt⟩, yh⟩) hsG) hi hy1
  refine ⟨H1, st1, g2, ?_⟩
  unfold spM
  rw [MJ (q := ⟨yw, yv, ⟨kws, kvs, a, b, kt⟩, yh⟩) hy rfl rfl rfl rfl]
  exact hM1
 unfold FL
 obtain ⟨ct, hct⟩ : ∃ q, c.pert = q := ⟨_, rfl⟩
 cases ct with
 | true =>
  rw [if_pos hct]
  have hm : DF (c.seed.toNat : Nat) ((k + 1 : Nat) : Int) = true := by
   unfold DF
   rw [within_iff.2 (by omega), within_iff.2 (by omega)]; rfl
  have hb4 : DQ c.seed.toNat (k + 1) 4 < 4 := Fo (s := c.seed.toNat) (k := k + 1) (b := 4) (by decide)
  have c1 : Call Tryz.prog 188 [.int .i64 c.seed, .int .i64 ((k : Int) + 1), .int .i64 4] H (.tup [.int .i64 (DQ c.seed.toNat (k + 1) 4 : Nat), .int .i64 0]) H := by
   have := Jc H c.seed.toNat (k + 1) 4 hm (by decide) (by decide)
   rw [hsn] at this
   exact this
  have c2 := ZO H kr km (DQ c.seed.toNat (k + 1) 4) hh hb4
  generalize DQ c.seed.toNat (k + 1) 4 = x at *
  generalize IG kr km x = z at *
  obtain ⟨H1, st1, g2, hM1⟩ := hset z.1 z.2
  obtain ⟨_, H2, c3, rfl, ev', hM2⟩ := WM ⟨2, 0, 0, 0, z.1, z.2⟩ hM1 (by omega)
  clear hset hsn hm
  refine CO fit mixed hM Tryz.func149 rfl rfl rfl (by kernel_rfl) fun _ => ?_
  refine goM ?_
  refine AA c1 ?_
  refine goM ?_
  refine AI c2 ?_
  refine goM ?_
  refine Jx st1 ?_
  clear hM l0 l2 l4 l5
  have hM := hM1
  clear hM1
  refine goM ?_
  refine AA c3 ?_
  refine goM ?_
  refine Bu (by simp only [resRf, resRs, resR]; first | done | rfl) ⟨rfl, ev', hM2⟩
 | false =>
  rw [if_neg (by rw [hct]; decide)]
  have c1 : Call Tryz.prog 204 [.int .i64 c.seed, .int .i64 ((k : Int) + 2)] H (.tup [.agg [.int .i64 (DR c.seed.toNat (k + 2) : Nat), .int .i64 (GI c.seed.toNat (k + 2) : Nat)], .int .i64 0]) H := by
   have := QG H c.seed.toNat (k + 2) (by omega) (by omega)
   rw [hsn] at this
   exact this
  generalize DR c.seed.toNat (k + 2) = a at *
  generalize GI c.seed.toNat (k + 2) = b at *
  obtain ⟨H1, st1, g2, hM1⟩ := hset a b
  obtain ⟨_, H2, c3, rfl, ev', hM2⟩ := WM ⟨2, 0, 0, 0, a, b⟩ hM1 (by omega)
  clear hset hsn
  refine CO fit mixed hM Tryz.func149 rfl rfl rfl (by kernel_rfl) fun _ => ?_
  refine goM ?_
  refine AI c1 ?_
  refine goM ?_
  refine Jx st1 ?_
  clear hM l0 l2 l4 l5
  have hM := hM1
  clear hM1
  refine goM ?_
  refine AA c3 ?_
  refine goM ?_
  refine Bu (by simp only [resRf, resRs, resR]; first | done | rfl) ⟨rfl, ev', hM2⟩
def MB (st : List Ent) (y : MR) : MR := ⟨y.w, y.v, y.k, (Iw st (BB y.k)).2.1⟩
theorem gC {B H : Heap} {L : List Res} {bt : Nat} {u mv ev sv : V} {rvs : List (V × Int)} {ys : List MR} {c : Cfg} {es : List Ev} {st : List Ent} {p cb co : Nat} {y : MR} (hM : Mem B H (spM bt u mv ev sv rvs ys c es st p cb co L)) (hy : ys[p]? = some y)
  (hi : idxV T 28 mv (p : Int) = some (.ptr cb co)) (hf : BW c y.k = true) (hl : st.length ≤ 100) :
  ∃ w H', Call Tryz.prog 96 [.ptr bt 0] H w H' ∧ w = .tup [] ∧ ∃ sv', Mem B H' (spM bt u mv ev sv' rvs (ys.set p (MB st y)) c es (DP (Iw st (BB y.k)).1 y.h).1 p cb co L) := by
 have hml : p < ys.length := (List.getElem?_eq_some_iff.1 hy).1
 obtain ⟨l0, _, _, l5⟩ := Fj (hM.sl (v := mv) (xs := ys) hsG) hi hy
 have hka := GH (hM.fact (F := pack (Bn ys)) hsG) y (List.mem_of_getElem? hy)
 have hcm : CT y.k.ws y.k.vs y.k.r y.k.m y.k.t = true := by
  unfold BW BI at hf
  rw [Bool.and_eq_true] at hf
  exact hf.1
 obtain ⟨yw, yv, yk, yh⟩ := y
 simp only at l0 l5 hka hcm hf
 have s1 := hka.ws.cells
 have s2 := hka.vs.cells
 have c1 : Call Tryz.prog 150 [.agg (kC yw yv yk)] H (.tup [.str (BB yk), .int .i64 0]) H := Lr H yw yv yk.ws yk.vs yk.r yk.m yk.t hka.ws hka.vs hcm
 have e1 : Bn (ys.set p (MB st ⟨yw, yv, yk, yh⟩)) = Bn ys := MJ hy rfl rfl rfl rfl
 unfold MB at e1 ⊢
 simp only at e1 ⊢
 obtain ⟨_, H1, c2, x1, rfl, m1⟩ := Uj H sv st (BB yk) (hM.sl (v := sv) (xs := st) hsG) (by omega)
 have t1 := (m1.sl .here).cells
 have hpl := LU st (BB yk)
 refine CO fit mixed hM Tryz.func96 rfl rfl rfl (by kernel_rfl) fun _ => ?_
 refine goM ?_
 refine AA c1 ?_
 refine goM ?_
 refine AA c2 ?_
 replace hM := hM.BH m1
 clear c1 c2 m1 l0 l5 hka
 unfold Iw at e1 ⊢
 by_cases hq : (putS st (BB yk)).2.2 = 0
 ·have q0 : ((putS st (BB yk)).2.2 != 0) = false := by rw [hq]; rfl
  rw [if_pos hq] at e1 ⊢
  generalize putS st (BB yk) = o at *
  obtain ⟨st', id', er'⟩ := o
  simp only at q0 hM hpl e1 ⊢
  obtain ⟨_, _, _, l5⟩ := Fj (hM.sl (v := mv) (xs := ys) hsG) hi hy
  simp only at l5
  obtain ⟨_, H2, c3, x2, rfl, m2⟩ := VU H1 x1 st' yh (hM.sl (v := x1) (xs := st') hsG) (by omega)
  have t2 := (m2.sl .here).cells
  refine goM ?_
  refine Be c3 (.inl m2.pre) ?_
  replace hM := hM.BH m2
  clear c3 m2 l5
  refine goM ?_
  refine DT T30 fun H3 hM => ?_
  obtain ⟨H4, st4, hM4⟩ := Fy hM (u := mv) (ys := ys) hsG hy hi 5 T3 (by decide) (w := .int .i64 id') (y' := ⟨yw, yv, yk, id'⟩) rfl rfl rfl
  rw [← e1] at hM4
  refine goM ?_
  refine Jx st4 ?_
  refine goM ?_
  clear hM
  refine Bu (by simp only [resRf, resRs, resR]; first | done | rfl) ⟨rfl, x2, ?_⟩
  have h1 := (hM4.front (r := .own 3 BE x2 (DP st' yh).1) tkG).front (r := .own 6 evC ev es) tkG
  have h2 := h1.front (r := .own 6 mrC mv (ys.set p ⟨yw, yv, yk, id'⟩)) tkG
  exact (h2.front (r := .box bt (spC c u mv ev x2 p cb co)) tkG).sub sbG
 ·have q0 : ((putS st (BB yk)).2.2 != 0) = true := by simpa using hq
  rw [if_neg hq] at e1 ⊢
  generalize putS st (BB yk) = o at *
  obtain ⟨st', id', er'⟩ := o
  simp only at q0 hM hpl
  obtain ⟨_, H2, c3, x2, rfl, m2⟩ := Tj H1 sv st (hM.sl (v := sv) (xs := st) hsG) (by omega)
  have hsl := Oz st
  generalize EE st = o at *
  obtain ⟨st2, er2⟩ := o
  simp only at hsl m2 e1 ⊢
  have t2 := (m2.sl .here).cells
  refine goM ?_
  refine AA c3 ?_
  replace hM := hM.BH m2
  clear c3 m2
  refine goM ?_
  refine AM T30 fun H3 hM => ?_
  obtain ⟨_, H4, c4, x3, rfl, m3⟩ := Uj H3 x2 st2 (BB yk) (hM.sl (v := x2) (xs := st2) hsG) (by omega)
  have t3 := (m3.sl .here).cells
  have hpl2 := LU st2 (BB yk)
  refine goM ?_
  refine AA c4 ?_
  replace hM := hM.BH m3
  clear c4 m3
  generalize putS st2 (BB yk) = o at *
  obtain ⟨st3, id3, er3⟩ := o
  simp only at hM hpl2 e1 ⊢
  obtain ⟨_, _, _, l5⟩ := Fj (hM.sl (v := mv) (xs := ys) hsG) hi hy
  simp only at l5
  obtain ⟨_, H5, c5, x4, rfl, m4⟩ := VU H4 x3 st3 yh (hM.sl (v := x3) (xs := st3) hsG) (by omega)
  have t4 := (m4.sl .here).cells
  refine goM ?_
  refine Be c5 (.inl m4.pre) ?_
  replace hM := hM.BH m4
  clear c5 m4 l5
  refine goM ?_
  refine DT T30 fun H6 hM => ?_
  obtain ⟨H7, st7, hM7⟩ := Fy hM (u := mv) (ys := ys) hsG hy hi 5 T3 (by decide) (w := .int .i64 id3) (y' := ⟨yw, yv, yk, id3⟩) rfl rfl rfl
  rw [← e1] at hM7
  refine goM ?_
  refine Jx st7 ?_
  refine goM ?_
  clear hM
  refine Bu (by simp only [resRf, resRs, resR]; first | done | rfl) ⟨rfl, x4, ?_⟩
  have h1 := (hM7.front (r := .own 3 BE x4 (DP st3 yh).1) tkG).front (r := .own 6 evC ev es) tkG
  have h2 := h1.front (r := .own 6 mrC mv (ys.set p ⟨yw, yv, yk, id3⟩)) tkG
  exact (h2.front (r := .box bt (spC c u mv ev x4 p cb co)) tkG).sub sbG
structure SV where
 u : V
 mv : V
 ev : V
 sv : V
 rvs : List (V × Int)
 xs : List MR
def SV.own (q : SV) (s : St) : Res := .ro (pack (Cz q.u q.mv q.ev q.sv q.rvs q.xs s))
structure SV.Ok (q : SV) (s : St) : Prop where
 lk : Jr q.rvs s.c.rows
 val : q.xs.map MR.val = s.ms
abbrev SV.c (q : SV) (s : St) : List V := stC s.c q.u q.mv q.ev q.sv
theorem SV.at_ {B H : Heap} {L : List Res} {f : Res → List Res} {q : SV} {s : St} (hk : q.Ok s) (hM : Mem B H L) (hh : Has L (q.own s) f := by (repeat (first | exact Has.here | apply Has.there))) : Da H q.u q.mv q.ev q.sv q.xs s :=
 Tb (L := []) (by have := IE (hM.fact (show Has L (.ro (pack (Cz q.u q.mv q.ev q.sv q.rvs q.xs s))) f from hh)); simpa using this) hk.lk hk.val
structure Tq (u mv ev sv : V) : Prop where
 u : u.cells = [u] ∧ u.isTup = false
 mv : mv.cells = [mv] ∧ mv.isTup = false
 ev : ev.cells = [ev] ∧ ev.isTup = false
 sv : sv.cells = [sv] ∧ sv.isTup = false
theorem Da.Ga {H : Heap} {rv mv ev sv : V} {xs : List MR} {s : St} (h : Da H rv mv ev sv xs s) : Tq rv mv ev sv :=
 ⟨by obtain ⟨_, h, _⟩ := h.rows; exact h.cells, h.ms.cells, h.es.cells, h.st.cells⟩
theorem Mem.sv {B H : Heap} {L : List Res} {u mv ev sv : V} {rvs : List (V × Int)} {xs : List MR} {s : St} (h : Mem B H (Cz u mv ev sv rvs xs s ++ L)) : Mem B H (SV.own ⟨u, mv, ev, sv, rvs, xs⟩ s :: L) := h.packed
theorem Mem.svN {B H : Heap} {u mv ev sv : V} {rvs : List (V × Int)} {xs : List MR} {s : St} (h : Mem B H (Cz u mv ev sv rvs xs s)) : Mem B H [SV.own ⟨u, mv, ev, sv, rvs, xs⟩ s] := Mem.packed (L := Cz u mv ev sv rvs xs s) (M := []) (by simpa using h)
def KD (H : Heap) (r : St × Int) (w : V) (H' : Heap) : Prop := ∃ q : SV, w = .tup [.agg (q.c r.1), .int .i64 r.2] ∧ q.Ok r.1 ∧ Mem H H' [q.own r.1]
theorem Ue (H : Heap) : Mem H H [SV.own ⟨.AN, .AN, .AN, .AN, [], []⟩ DN] := (OR (H := H)).svN
theorem ZF : SV.Ok ⟨.AN, .AN, .AN, .AN, [], []⟩ DN := ⟨⟨rfl, by simp [DN, Vu]⟩, rfl⟩
theorem gG (H : Heap) (c : Cfg) (rv : V) (hr : Rows H rv c.rows) (hf : c.Fit) : ∃ w H', Call Tryz.prog 46 [.agg (BJ c rv)] H w H' ∧ KD H (Gy c) w H' := by
 obtain ⟨w, H', h, u, mv, sv, rvs, xs, rfl, h1, h2, h3⟩ := SA H c rv hr hf
 exact ⟨_, H', h, ⟨u, mv, .AN, sv, rvs, xs⟩, rfl, ⟨h1, h2⟩, h3.svN⟩
theorem fC (H : Heap) (s : St) {rv mv ev sv rv' mv' ev' sv' : V} {xs ys : List MR} (ha : Da H rv mv ev sv xs s) (hb' : Da H rv' mv' ev' sv' ys s) (hf : s.Fit) :
  Call Tryz.prog 27 [.agg (stC s.c rv mv ev sv), .agg (stC s.c rv' mv' ev' sv')] H (.bool true) H := Uw H s rv mv ev sv rv' mv' ev' sv' xs ys ha hb' hf
theorem Hk {ys : List MR} {ms : List (Chk × Int)} (hv : ys.map MR.val = ms) {j : Nat} {m : Chk × Int} (hm : ms[j]? = some m) : ∃ y, ys[j]? = some y ∧ y.val = m := by
 rw [← hv, List.getElem?_map] at hm
 cases hy : ys[j]? with
 | none => rw [hy] at hm; cases hm
 | some y => rw [hy] at hm; exact ⟨y, rfl, Option.some.inj hm⟩
def s1_ (s : St) (p : Nat) : St := ⟨s.c, ms1 s p, es1 s p, s.st⟩
theorem Vs (s : St) (p : Nat) (x : Chk × Int) : (ms1 s p).set p x = s.ms.set p x := by unfold ms1; rw [List.set_set]
theorem Zc {s : St} {p : Nat} {o : Chk × Int} (h : EN s p o) (hf : s.Fit) : (s1_ s p).Fit := by
 have h1 := hf.ms
 have h2 := hf.es
 have h3 := h.room
 refine ⟨hf.c, by show (ms1 s p).length * 80 ≤ _; unfold ms1; rw [List.length_set]; exact h1, fun m hm => Di (ON h.ok h.at_ h.t hm), ?_, hf.st⟩
 show (es1 s p).length * 48 ≤ _
 unfold es1
 rw [List.length_append, List.length_singleton]; omega
theorem cU {p : Nat} {t : Int} (hp : p < 8) (ht : 0 ≤ t ∧ t ≤ 32) : atN p t ≤ 130000 ∧ IntKind.i64.wrap (4096 * (p : Int)) = 4096 * (p : Int) ∧ IntKind.i64.wrap (100000 + 4096 * (p : Int)) = 100000 + 4096 * (p : Int) ∧ IntKind.i64.wrap (8 * t) = 8 * t ∧ IntKind.i64.wrap (100000 + 4096 * (p : Int) + 8 * t) = ((atN p t : Nat) : Int) := by
 unfold atN
 refine ⟨by omega, wrap_i64 (by omega) (by omega), wrap_i64 (by omega) (by omega), wrap_i64 (by omega) (by omega), ?_⟩
 rw [wrap_i64 (by omega) (by omega)]; omega
theorem YU {B H : Heap} {L : List Res} {bt : Nat} {u mv ev sv : V} {rvs : List (V × Int)} {ys : List MR} {s : St} {p cb co : Nat} {o : Chk × Int} (pk : EN s p o) (hM : Mem B H (spM bt u mv ev sv rvs ys s.c (es1 s p) s.st p cb co L)) (hv : ys.map MR.val = ms1 s p) (hlk : Jr rvs s.c.rows) (hf : s.Fit)
  (hi : idxV T 28 mv (p : Int) = some (.ptr cb co)) (ht : (AP s p).t.tmod s.c.interval = 0) :
  ∃ w H', Call Tryz.prog 95 [.ptr bt 0] H w H' ∧ w = .tup [] ∧ ∃ ev' ys', ys'.map MR.val = s.ms.set p (Ci s p, (DB s.ms p).2) ∧ Mem B H' (spM bt u mv ev' sv rvs ys' s.c (es2 s p) s.st p cb co L) := by
 have hc := pk.ok.c
 obtain ⟨⟨hm2, hm8⟩, _, ⟨hs0, hs1⟩, ⟨hT1, hT2⟩, _⟩ := AX hc
 have hsn : ((s.c.seed.toNat : Nat) : Int) = s.c.seed := Int.toNat_of_nonneg hs0
 have hp := (List.getElem?_eq_some_iff.1 pk.at_).1
 have hlen := pk.ok.len
 obtain ⟨tr1, tr2, tr3, tr4, _⟩ := HW pk.ok pk.at_ pk.t
 obtain ⟨hk, w1, w2, w3, w4⟩ := cU (p := p) (t := (AP s p).t) (by omega) (by omega)
 clear tr1 tr2 tr3 tr4
 have hpm : (ms1 s p)[p]? = some (AP s p, (DB s.ms p).2) := by rw [Hg hp, if_pos rfl]
 obtain ⟨y, hy, hyv⟩ := Hk hv hpm
 have hml : p < ys.length := (List.getElem?_eq_some_iff.1 hy).1
 have hel : (es1 s p).length ≤ 1024 := by have := pk.room; unfold es1; rw [List.length_append, List.length_singleton]; omega
 have hc1 : Call Tryz.prog 145 [.int .i64 s.c.seed, .int .i64 ((atN p (AP s p).t : Nat) : Int)] H (.tup [.int .i64 (Db s.c.seed.toNat (atN p (AP s p).t) : Nat), .int .i64 0]) H := by
  have := JB H s.c.seed.toNat (atN p (AP s p).t) (by unfold DF; rw [within_iff.2 (by omega), within_iff.2 (by omega)]; rfl)
  rw [hsn] at this
  exact this
 have hat : Da H u mv ev sv ys (s1_ s p) := ⟨DL (hM.fact (F := pack (Bl u rvs s.c.rows)) hsG) hlk, hM.sl (v := mv) (xs := ys) hsG, hv, GH (hM.fact (F := pack (Bn ys)) hsG), hM.sl (v := ev) (xs := es1 s p) hsG, hM.sl (v := sv) (xs := s.st) hsG⟩
 obtain ⟨sc, H1, hc2, m1⟩ := gY H bt (s1_ s p) u mv ev sv ys (hM.ldA (b := bt) (cs := spC s.c u mv ev sv p cb co) .here T26 rfl (by show 0 + 9 ≤ 14; decide) rfl) (hM.ld (b := bt) (cs := spC s.c u mv ev sv p cb co) .here T28 rfl rfl) hat (Zc pk hf)
 have hsl : (FI (s1_ s p)).length ≤ 2 ^ 47 := by
  unfold FI s1_ ms1
  rw [List.length_map, List.length_set]
  have := hf.ms
  omega
 have hc3 := dV H1 sc (FI (s1_ s p)) p s.c.cutn (Db s.c.seed.toNat (atN p (AP s p).t)) (m1.sl .here) hsl
 have hdd : Ew (FI (s1_ s p)) (p : Int) s.c.cutn (Db s.c.seed.toNat (atN p (AP s p).t) : Nat) = Cg s p := rfl
 rw [hdd] at hc3
 clear hdd hsl hat
 obtain ⟨l0, l2, l4, l5⟩ := Fj (hM.sl (v := mv) (xs := ys) hsG) hi hy
 have hyk : y.k = AP s p := congrArg Prod.fst hyv
 have hyh : y.h = (DB s.ms p).2 := congrArg Prod.snd hyv
 rw [hyk] at l4
 have hkx := fun d (z : MR) (hz : ys[d]? = some z) => GH (hM.fact (F := pack (Bn ys)) hsG) z (List.mem_of_getElem? hz)
 have sc1 := (m1.sl .here).cells
 cases hd : (Cg s p).2.1 with
 | false =>
  have htk : DE s p = false := by unfold DE; rw [hd, Bool.and_false]
  have e1 : Ci s p = AP s p := by unfold Ci; rw [htk, if_neg (by decide)]
  have e2 : es2 s p = es1 s p := by unfold es2; rw [htk, if_neg (by decide)]
  rw [hd] at hc3
  rw [e1, e2]
  rw [show s.ms.set p (AP s p, (DB s.ms p).2) = ms1 s p from rfl]
  generalize atN p (AP s p).t = kk at *
  generalize Db s.c.seed.toNat kk = dd at *
  generalize (Cg s p).1 = d1 at *
  generalize (Cg s p).2.2 = d3 at *
  generalize (AP s p).t = tt at *
  clear hkx e1 e2 htk hd
  refine CO fit mixed hM Tryz.func95 rfl rfl rfl (by kernel_rfl) fun _ => ?_
  refine goM ?_
  refine AA hc1 ?_
  refine goM ?_
  refine Be hc2 (.inl m1.pre) ?_
  replace hM := hM.BH m1
  refine goM ?_
  refine Be hc3 (.inl (List.prefix_refl _)) ?_
  refine goM ?_
  exact AL (by simp only [resRf, resRs, resR]; first | done | rfl) ⟨rfl, ev, ys, hv, hM.Ea⟩
 | true =>
  have htk : DE s p = true := by unfold DE; rw [hd, decide_eq_true ht]; rfl
  obtain ⟨d, hdn, hds, hdp, hdm⟩ := JA hp htk
  have hdm1 : (ms1 s p)[d]? = some (DB (ms1 s p) d) := by rw [Hg hp, if_neg hdp]; exact hdm
  obtain ⟨z, hz, hzv⟩ := Hk hv hdm1
  have hzk : z.k = Iu s p := by unfold Iu; rw [hdn, Int.toNat_natCast]; exact congrArg Prod.fst hzv
  have hzf : BW s.c z.k = true := by rw [show z.k = (DB (ms1 s p) d).1 from congrArg Prod.fst hzv]; exact ON pk.ok pk.at_ pk.t (List.mem_of_getElem? hdm1)
  have hka := hkx d z hz
  have hzc : Chk.Fit z.k := Di hzf
  have hzy : BK z.k.r z.k.m = true := by
   unfold BW BI at hzf
   rw [Bool.and_eq_true] at hzf
   exact (Bo hzf.1).2.2.2.2.1
  have e2 : es2 s p = (es1 s p ++ [⟨1, p, d, (BD (es1 s p) d : Nat), 0, 0⟩]) ++ [⟨2, p, 0, 0, (Ek s p).1, (Ek s p).2⟩] := by
   unfold es2; rw [htk, if_pos rfl, hdn, List.append_assoc]; rfl
  have e1 : Ci s p = ⟨z.k.ws, z.k.vs, (Ek s p).1, (Ek s p).2, (AP s p).t⟩ := by
   unfold Ci; rw [htk, if_pos rfl, hzk]
  have e3 : Ek s p = FL s.c z.k.r z.k.m (atN p (AP s p).t) := by unfold Ek; rw [hzk]
  rw [hd, hdn] at hc3
  rw [e1, e2, e3]
  obtain ⟨bz, oz, hiz, _, lz, _⟩ := EM ((hM.BH m1).sl (v := mv) (xs := ys) hsG) hz
  obtain ⟨zw, zv, zk, zh⟩ := z
  simp only at hka hzf hzc hzy lz
  have t3 := hka.ws.cells
  have t4 := hka.vs.cells
  obtain ⟨_, H2, hc4, a, b, rfl, m2⟩ := KF H1 zw zv zk (hka.mono m1.pre) hzc
  have s3 := (m2.sl .here).cells
  have s4 := (m2.sl (.there .here)).cells
  generalize hkk : atN p (AP s p).t = kk at *
  generalize Db s.c.seed.toNat kk = dd at *
  generalize (Cg s p).2.2 = d3 at *
  have hcm := many H2
  obtain ⟨yw, yv, yk, yh⟩ := y
  simp only at hyk hyh l0 l2 l5
  subst hyk
  subst hyh
  generalize hes : es1 s p = es at *
  generalize hmt : (AP s p).t = tt at *
  clear e1 e2 e3 hkx hdm hdm1 hd hdn hzk
  refine CO fit mixed hM Tryz.func95 rfl rfl rfl (by kernel_rfl) fun _ => ?_
  refine goM ?_
  refine AA hc1 ?_
  refine goM ?_
  refine Be hc2 (.inl m1.pre) ?_
  replace hM := hM.BH m1
  refine goM ?_
  refine Be hc3 (.inl (List.prefix_refl _)) ?_
  refine goM ?_
  refine AA hc4 ?_
  replace hM := hM.call2 m2
  clear hc1 hc2 hc3 hc4 m1 m2 l0 l2 l4 l5 lz hka
  refine goM ?_
  refine Aj (cs := Ay) T82 rfl fun b5 H2 hM => ?_
  refine AM T82 fun H3 hM => ?_
  obtain ⟨H4, st4, hM4⟩ := Fy hM (u := mv) (ys := ys) hsG hy hi 0 T27 (by decide) (w := a) (y' := ⟨a, yv, AP s p, (DB s.ms p).2⟩) s4.2 (by rw [s4.1]; rfl) (by rw [s4.1]; rfl)
  have hy4 : (ys.set p ⟨a, yv, AP s p, (DB s.ms p).2⟩)[p]? = some ⟨a, yv, AP s p, (DB s.ms p).2⟩ := List.getElem?_set_self hml
  obtain ⟨H5, st5, hM5⟩ := Fy hM4 (u := mv) hsG hy4 hi 1 T27 (by decide) (w := b) (y' := ⟨a, b, AP s p, (DB s.ms p).2⟩) s3.2 (by rw [s3.1]; rfl) (by rw [s3.1]; rfl)
  rw [List.set_set] at hM5
  have hy5 : (ys.set p ⟨a, b, AP s p, (DB s.ms p).2⟩)[p]? = some ⟨a, b, AP s p, (DB s.ms p).2⟩ := List.getElem?_set_self hml
  obtain ⟨H6, st6, hM6⟩ := Fy hM5 (u := mv) hsG hy5 hi 2 T80 (by decide) (w := .agg [.int .i64 zk.r, .int .i64 zk.m]) (y' := ⟨a, b, ⟨zk.ws, zk.vs, zk.r, zk.m, (AP s p).t⟩, (DB s.ms p).2⟩) rfl rfl rfl
  rw [List.set_set] at hM6
  have hM6' := hM6
  rw [hmt] at hM6
  have hy6 : (ys.set p ⟨a, b, ⟨zk.ws, zk.vs, zk.r, zk.m, tt⟩, (DB s.ms p).2⟩)[p]? = some ⟨a, b, ⟨zk.ws, zk.vs, zk.r, zk.m, tt⟩, (DB s.ms p).2⟩ := List.getElem?_set_self hml
  have h6 := ((hM6.front (r := .ro (pack (Bn ys))) tkG).front (r := .own 1 AH b zk.vs) tkG).front (r := .own 1 AH a zk.ws) tkG
  have h7 := h6.Vt (y := ⟨a, b, ⟨zk.ws, zk.vs, zk.r, zk.m, tt⟩, (DB s.ms p).2⟩) hml
  have h8 := ((h7.front (r := .own 3 BE sv s.st) tkG).front (r := .own 6 evC ev es) tkG).front (r := .own 6 mrC mv (ys.set p ⟨a, b, ⟨zk.ws, zk.vs, zk.r, zk.m, tt⟩, (DB s.ms p).2⟩)) tkG
  have h9 : Mem B H6 (spM bt u mv ev sv rvs (ys.set p ⟨a, b, ⟨zk.ws, zk.vs, zk.r, zk.m, tt⟩, (DB s.ms p).2⟩) s.c es s.st p cb co L) := (h8.front (r := .box bt (spC s.c u mv ev sv p cb co)) tkG).sub sbG
  have hcm := many H6 ev es (d : Int) (h9.sl (v := ev) (xs := es) hsG) (by omega)
  obtain ⟨_, H7, c6, rfl, ev1, hM7⟩ := WM ⟨1, 0, d, (BD es d : Nat), 0, 0⟩ h9 (by omega)
  obtain ⟨_, H8, c7, rfl, ev2, hM8⟩ := YV kk hM7 hy6 hi hc hzy (by omega) (by rw [List.length_append, List.length_singleton]; omega)
  have und : V.under H3.length b = true := (hM.sl (.there .here)).under
  rw [Nat.add_zero] at st4
  clear h6 h7 h8 hM6 hy4 hy5 hy6
  refine goM ?_
  refine NZ ?_
  have np := RK (T := T) H3
  repeat (first | (refine Hw ?_; refine Eo ?_) | refine Ey ?_)
  refine Jd np und ?_
  clear np
  refine JC (OS (BX (off := 1) hM .here T27 rfl rfl)) fun np => ?_
  repeat (first | (refine Hw ?_; refine Eo ?_) | refine Ey ?_)
  refine Jd np (v := .agg [.int .i64 zk.r, .int .i64 zk.m]) rfl ?_
  clear np
  refine JC (Bi (BU (off := 2) hM .here T80 rfl rfl rfl) (BX (off := 1) hM .here T27 rfl rfl)) fun np => ?_
  repeat (first | (refine Hw ?_; refine Eo ?_) | refine Ey ?_)
  refine JD st4 ⟨Bi (BU (off := 2) hM4 .here T80 rfl rfl rfl) (BX (off := 1) hM4 .here T27 rfl rfl), ?_⟩
  clear np
  refine JC (Bi (BU (off := 2) hM4 .here T80 rfl rfl rfl) (BX (off := 1) hM4 .here T27 rfl rfl)) fun np => ?_
  repeat (first | (refine Hw ?_; refine Eo ?_) | refine Ey ?_)
  refine JD st5 ⟨Bi (BU (off := 2) hM5 .here T80 rfl rfl rfl) (BX (off := 1) hM5 .here T27 rfl rfl), ?_⟩
  clear np
  refine JC (Bi (BU (off := 2) hM5 .here T80 rfl rfl rfl) (BX (off := 1) hM5 .here T27 rfl rfl)) fun np => ?_
  repeat (first | (refine Hw ?_; refine Eo ?_) | refine Ey ?_)
  refine JD st6 ⟨Bi (BU (off := 2) hM6' .here T80 rfl rfl rfl) (BX (off := 1) hM6' .here T27 rfl rfl), ?_⟩
  clear np
  refine JC (Bi (BU (off := 2) hM6' .here T80 rfl rfl rfl) (BX (off := 1) hM6' .here T27 rfl rfl)) fun np => ?_
  repeat (first | (refine Hw ?_; refine Eo ?_) | refine Ey ?_)
  clear np hM hM4 hM5 hM6'
  have hM := h9
  refine goM ?_
  refine AA hcm ?_
  refine goM ?_
  refine AA c6 ?_
  refine goM ?_
  refine AA c7 ?_
  refine goM ?_
  refine Bu (by simp only [resRf, resRs, resR]; first | done | rfl) ⟨rfl, ev2, _, ?_, hM8⟩
  rw [List.map_set, List.map_set, hv, List.set_set, Vs]
  rfl
theorem Vc {B H : Heap} {L : List Res} {bt : Nat} {u mv ev sv : V} {rvs : List (V × Int)} {ys : List MR} {s : St} {p cb co : Nat} {o : Chk × Int} (pk : EN s p o) (hM : Mem B H (spM bt u mv ev sv rvs ys s.c (es2 s p) s.st p cb co L)) (hv : ys.map MR.val = s.ms.set p (Ci s p, (DB s.ms p).2))
  (hi : idxV T 28 mv (p : Int) = some (.ptr cb co)) :
  ∃ w H', Call Tryz.prog 96 [.ptr bt 0] H w H' ∧ w = .tup [] ∧ ∃ sv' ys', ys'.map MR.val = (doS s p).ms ∧ Mem B H' (spM bt u mv ev sv' rvs ys' s.c (es2 s p) (st2 s p) p cb co L) := by
 have hp := (List.getElem?_eq_some_iff.1 pk.at_).1
 obtain ⟨y, hy, hyv⟩ := Hk hv (List.getElem?_set_self hp)
 have hyk : y.k = Ci s p := congrArg Prod.fst hyv
 have hyh : y.h = (DB s.ms p).2 := congrArg Prod.snd hyv
 have hst := pk.ok.st.len
 obtain ⟨w, H', hc, hw, sv', hM'⟩ := gC hM hy hi (by rw [hyk]; exact Ls pk.ok pk.at_ pk.t) (by omega)
 rw [hyk, hyh] at hM'
 refine ⟨w, H', hc, hw, sv', _, ?_, hM'⟩
 rw [List.map_set, hv, List.set_set]
 show s.ms.set p (y.k, (Iw s.st (BB y.k)).2.1) = s.ms.set p (Ci s p, GC s p)
 rw [hyk]; rfl
theorem cC (H : Heap) (s : St) (rv mv ev sv : V) (xs : List MR) (ha : Da H rv mv ev sv xs s) (hf : s.Fit) (pick : Int) :
  ∃ w H', Call Tryz.prog 42 [.agg (stC s.c rv mv ev sv), .int .i64 pick] H w H' ∧ KD H (doR s pick) w H' := by
 obtain ⟨z1, z2, z3, z4⟩ := ha.Ga
 have hle := ha.es.len T29 rfl
 have hel := hf.es
 refine Ao fit mixed Tryz.func42 rfl rfl rfl (by kernel_rfl) fun hM => ?_
 refine AO (AK ?_)
 refine Ax T32 fun b1 H1 hM => ?_
 refine Aj (cs := Au) T32 rfl fun b2 H2 hM => ?_
 have c1 := Iz H2 s rv mv ev sv xs (ha.mono hM.pre) hf
 have c2 := IV H2 b1 s.c.m pick (by have hrow := hM.row (.there .here); unfold Heap.loadN; rw [hrow]; rfl)
 have we : IntKind.i64.wrap ((s.es.length : Int) + 4) = (s.es.length : Int) + 4 := wrap_i64 (by omega) (by omega)
 have bad : ∀ H3, Mem H H3 [.box b2 Au, .box b1 (stC s.c rv mv ev sv)] → ∀ e, doR s pick = (DN, e) → KD H (doR s pick) (.tup [.agg Au, .int .i64 e]) H3 := fun H3 hM e he => by
  rw [he]
  exact ⟨⟨.AN, .AN, .AN, .AN, [], []⟩, rfl, ZF, (Ue H3).Yt hM.pre⟩
 by_cases hok : Lt s pick = true
 ·obtain ⟨hst, hroom, p, o, rfl, ho⟩ := KK hok
  unfold Lt at hok
  simp only [Bool.and_eq_true] at hok
  rw [hok.1.1] at c1
  rw [hok.1.2] at c2
  have he : decide ((s.es.length : Int) + 4 > 1024) = false := decide_eq_false (by omega)
  obtain ⟨x, hx, hxv⟩ := Hk ha.val ho
  have hxk : x.k = o.1 := congrArg Prod.fst hxv
  obtain ⟨bo, oo, hio, _, _, _⟩ := EM (ha.ms.mono hM.pre) hx
  obtain ⟨_, _, l4, _⟩ := Fj (ha.ms.mono hM.pre) hio hx
  by_cases ht : o.1.t = s.c.total
  ·have hr := NN hst ho ht hroom
   have hq : (x.k.t == s.c.total) = true := by rw [hxk, ht]; simp
   have hend := fun H3 h3 => bad H3 h3 2301 hr
   clear bad hok hst ha ho hx hxv hxk hr
   refine goM ?_
   refine AA c1 ?_
   refine goM ?_
   refine AA c2 ?_
   refine goM ?_
   refine AM T32 fun H3 hM => ?_
   refine goM ?_
   exact An (hend _ hM)
  ·have pk : EN s p o := ⟨hst, ho, ht, hroom⟩
   have hq : (x.k.t == s.c.total) = false := by rw [hxk]; simpa using ht
   have hsl := hst.st.len
   obtain ⟨_, H3, c3, u, mv1, ev1, sv1, rvs, ys, rfl, hlk, hval, m1⟩ := Kt H2 s rv mv ev sv xs (ha.mono hM.pre) hf (by omega)
   have hat := Tb (L := []) (by simpa using m1) hlk hval
   obtain ⟨q1, q2, q3, q4⟩ := hat.Ga
   obtain ⟨y, hy, hyv⟩ := Hk hval ho
   obtain ⟨cb, co, hi, _⟩ := EM hat.ms hy
   have hc := hst.c
   obtain ⟨⟨hm2, hm8⟩, _, _, ⟨hT1, hT2⟩, hI1, hI2⟩ := AX hc
   have hp := (List.getElem?_eq_some_iff.1 ho).1
   have hlen := hst.len
   have hi0 : (s.c.interval = 0) = False := eq_false (by omega)
   have hof := hst.fits o (List.mem_of_getElem? ho)
   have htot := hst.tot o (List.mem_of_getElem? ho)
   have hgo : Cs s.c p o.1 = (AP s p, 0) := by rw [Dx ho]; exact IM hc (by omega) hof (by omega)
   clear hok hat bad hxk hxv hx
   refine goM ?_
   refine AA c1 ?_
   refine goM ?_
   refine AA c2 ?_
   refine goM ?_
   refine AA c3 ?_
   replace hM : Mem H H3 (Cz u mv1 ev1 sv1 rvs ys s ++ _) := hM.call m1
   clear c1 c2 c3 m1 l4 hio
   unfold Cz at hM
   simp only [List.cons_append, List.nil_append] at hM
   refine goM ?_
   refine Ax gU fun bt H4 hM => ?_
   refine goM ?_
   refine AM gT fun H5 hM => ?_
   have h1 := ((hM.front (r := .ro (pack (Bl u rvs s.c.rows))) tkG).front (r := .ro (pack (Bn ys))) tkG).front (r := .own 3 BE sv1 s.st) tkG
   have h2 := (h1.front (r := .own 6 evC ev1 s.es) tkG).front (r := .own 6 mrC mv1 ys) tkG
   replace hM : Mem H H5 (spM bt u mv1 ev1 sv1 rvs ys s.c s.es s.st p cb co [.box b2 Au]) := (h2.front (r := .box bt (spC s.c u mv1 ev1 sv1 p cb co)) tkG).sub sbG
   clear h1 h2
   obtain ⟨l0, _, _, _⟩ := Fj (hM.sl (v := mv1) (xs := ys) hsG) hi hy
   have hka := GH (hM.fact (F := pack (Bn ys)) hsG) y (List.mem_of_getElem? hy)
   have hyk : y.k = o.1 := congrArg Prod.fst hyv
   have hyh : y.h = o.2 := congrArg Prod.snd hyv
   have hms : (DB s.ms p).2 = o.2 := by rw [Ep ho]
   have hml : p < ys.length := (List.getElem?_eq_some_iff.1 hy).1
   obtain ⟨yw, yv, yk, yh⟩ := y
   simp only at hyk hyh l0 hka
   subst hyk
   subst hyh
   have t1 := hka.ws.cells
   have t2 := hka.vs.cells
   obtain ⟨a, b, H6, c4, m2⟩ := gI H5 s.c u yw yv p o.1 (DL (hM.fact (F := pack (Bl u rvs s.c.rows)) hsG) hlk) hka hf.c (Di hof)
   rw [hgo] at c4 m2
   simp only at c4 m2
   have t3 := (m2.sl .here).cells
   have t4 := (m2.sl (.there .here)).cells
   refine goM ?_
   refine Be c4 (.inl m2.pre) ?_
   replace hM := hM.call2 m2
   clear c4 m2 l0 hka
   refine goM ?_
   obtain ⟨H7, st7, hM7⟩ := Fy hM (u := mv1) (ys := ys) hsG hy hi 0 T82 (by decide) (w := .agg (kC a b (AP s p))) (y' := ⟨a, b, AP s p, o.2⟩) rfl rfl rfl
   rw [Nat.add_zero] at st7
   refine Jx st7 ?_
   clear st7 hM
   have h6 := ((hM7.front (r := .ro (pack (Bn ys))) tkG).front (r := .own 1 AH b (AP s p).vs) tkG).front (r := .own 1 AH a (AP s p).ws) tkG
   have h7 := h6.Vt (y := ⟨a, b, AP s p, o.2⟩) hml
   have h8 := ((h7.front (r := .own 3 BE sv1 s.st) tkG).front (r := .own 6 evC ev1 s.es) tkG).front (r := .own 6 mrC mv1 (ys.set p ⟨a, b, AP s p, o.2⟩)) tkG
   have hM : Mem H H7 (spM bt u mv1 ev1 sv1 rvs (ys.set p ⟨a, b, AP s p, o.2⟩) s.c s.es s.st p cb co [.box b2 Au]) := (h8.front (r := .box bt (spC s.c u mv1 ev1 sv1 p cb co)) tkG).sub sbG
   clear h6 h7 h8 hM7
   have hv1 : (ys.set p ⟨a, b, AP s p, o.2⟩).map MR.val = ms1 s p := by
    rw [List.map_set, hval]; unfold ms1; rw [hms]; rfl
   have hy1 : (ys.set p ⟨a, b, AP s p, o.2⟩)[p]? = some ⟨a, b, AP s p, o.2⟩ := List.getElem?_set_self hml
   generalize ys.set p ⟨a, b, AP s p, o.2⟩ = ys1 at *
   obtain ⟨_, H8, c5, rfl, ev2, hM8⟩ := WM ⟨0, 0, 0, 0, 0, 0⟩ hM (by omega)
   refine goM ?_
   refine AA c5 ?_
   clear c5 hM
   have hM : Mem H H8 (spM bt u mv1 ev2 sv1 rvs ys1 s.c (es1 s p) s.st p cb co [.box b2 Au]) := hM8
   clear hM8
   obtain ⟨_, _, l4, _⟩ := Fj (hM.sl (v := mv1) (xs := ys1) hsG) hi hy1
   simp only at l4
   have hdone : ∀ {H9 : Heap} {sv3 ev3 : V} {ys3 : List MR}, ys3.map MR.val = (doS s p).ms → Mem H H9 (spM bt u mv1 ev3 sv3 rvs ys3 s.c (es2 s p) (st2 s p) p cb co [.box b2 (stC s.c u mv1 ev3 sv3)]) → KD H (doR s (p : Int)) (.tup [.agg (stC s.c u mv1 ev3 sv3), .int .i64 0]) H9 := fun {H9 sv3 ev3 ys3} hv3 hM => by
    rw [Nr pk]
    have h1 := ((hM.front (r := .own 3 BE sv3 (st2 s p)) tkG).front (r := .own 6 evC ev3 (es2 s p)) tkG).front (r := .own 6 mrC mv1 ys3) tkG
    have h2 := (h1.front (r := .ro (pack (Bn ys3))) tkG).front (r := .ro (pack (Bl u rvs s.c.rows))) tkG
    exact ⟨⟨u, mv1, ev3, sv3, rvs, ys3⟩, rfl, ⟨hlk, hv3⟩, Mem.svN (s := doS s p) (h2.sub (by unfold Cz; (repeat (first | exact List.Sublist.slnil | exact List.Sublist.refl _ | refine List.Sublist.cons_cons _ ?_ | refine List.Sublist.cons _ ?_))))⟩
   by_cases hrem : (AP s p).t.tmod s.c.interval = 0
   ·have hqr : ((AP s p).t.tmod s.c.interval == 0) = true := by rw [hrem]; rfl
    obtain ⟨_, H9, c6, rfl, ev3, ys2, hv2, hM9⟩ := YU pk hM hv1 hlk hf hi hrem
    obtain ⟨_, H10, c7, rfl, sv3, ys3, hv3, hM10⟩ := Vc pk hM9 hv2 hi
    have g3 := (hM10.sl (v := ev3) (xs := es2 s p) hsG).cells
    have g4 := (hM10.sl (v := sv3) (xs := st2 s p) hsG).cells
    generalize (AP s p).t = tt at *
    clear hy hy1 hM9 hrem hgo
    refine goM ?_
    refine AA c6 ?_
    refine goM ?_
    refine AA c7 ?_
    clear c6 c7 hM l4
    have hM := hM10
    clear hM10
    refine goM ?_
    refine AM T32 fun H11 hM => ?_
    refine goM ?_
    exact An (hdone hv3 hM)
   ·have hqr : ((AP s p).t.tmod s.c.interval == 0) = false := by simpa using hrem
    have htk : DE s p = false := by unfold DE; rw [decide_eq_false hrem, Bool.false_and]
    have e1 : Ci s p = AP s p := by unfold Ci; rw [htk, if_neg (by decide)]
    have e2 : es2 s p = es1 s p := by unfold es2; rw [htk, if_neg (by decide)]
    obtain ⟨_, H10, c7, rfl, sv3, ys3, hv3, hM10⟩ := Vc pk (by rw [e2]; exact hM) (by rw [e1]; exact hv1) hi
    have g4 := (hM10.sl (v := sv3) (xs := st2 s p) hsG).cells
    have g3 := (hM10.sl (v := ev2) (xs := es2 s p) hsG).cells
    generalize (AP s p).t = tt at *
    clear hy hy1 hrem hgo e1 e2
    refine goM ?_
    refine AA c7 ?_
    clear c7 hM l4
    have hM := hM10
    clear hM10
    refine goM ?_
    refine AM T32 fun H11 hM => ?_
    refine goM ?_
    exact An (hdone hv3 hM)
 ·have hr : doR s pick = (DN, 2300) := by unfold doR; rw [if_neg hok]
  have hend := fun H3 h3 => bad H3 h3 2300 hr
  have hok' : Lt s pick = false := by simpa using hok
  unfold Lt at hok'
  clear bad hr hok
  obtain ⟨q1, e1⟩ : ∃ q, BZ s = q := ⟨_, rfl⟩
  obtain ⟨q2, e2⟩ : ∃ q, within pick 0 (IntKind.i64.wrap (s.c.m - 1)) = q := ⟨_, rfl⟩
  rw [e1] at c1 hok'
  rw [e2] at c2 hok'
  clear e1 e2 ha
  cases q1 with
  | false =>
   clear hok' we
   refine goM ?_
   refine AA c1 ?_
   refine goM ?_
   refine AM T32 fun H3 hM => ?_
   refine goM ?_
   exact An (hend _ hM)
  | true =>
   cases q2 with
   | false =>
    clear hok' we
    refine goM ?_
    refine AA c1 ?_
    refine goM ?_
    refine AA c2 ?_
    refine goM ?_
    refine AM T32 fun H3 hM => ?_
    refine goM ?_
    exact An (hend _ hM)
   | true =>
    have he : decide ((s.es.length : Int) + 4 > 1024) = true := decide_eq_true (by
     have : ¬ s.es.length + 4 ≤ 1024 := by simpa using hok'
     omega)
    clear hok'
    refine goM ?_
    refine AA c1 ?_
    refine goM ?_
    refine AA c2 ?_
    refine goM ?_
    refine AM T32 fun H3 hM => ?_
    refine goM ?_
    exact An (hend _ hM)
theorem Sw {c : Cfg} (hf : c.Fit) : (Gy c).1.Fit := by
 unfold Gy
 cases hc : Al c with
 | false =>
  rw [if_neg (by decide)]
  exact ⟨⟨by decide, fun r hr => (by cases hr)⟩, by decide, fun m hm => (by cases hm), by decide, by decide⟩
 | true =>
  obtain ⟨hm2, _⟩ := AX hc
  obtain ⟨h1, h2, h3, h4, h5, h6⟩ := (ML hc c.m.toNat (by omega)).1
  rw [if_pos rfl]
  refine ⟨hf, ?_, fun m hm => ?_, by show (0 : Nat) * 48 ≤ _; decide, ?_⟩
  ·show (newF c c.m.toNat).1.length * 80 ≤ _
   omega
  ·obtain ⟨j, hj⟩ := List.mem_iff_getElem?.1 (show m ∈ (newF c c.m.toNat).1 from hm)
   rw [h2 j m hj]
   exact Di (Ff hc _)
  ·show (newF c c.m.toNat).2.length * 32 ≤ _
   omega
theorem SV.Ok.at_ {B H : Heap} {L : List Res} {f : Res → List Res} {q : SV} {s : St} (hk : q.Ok s) (hM : Mem B H L) (hh : Has L (q.own s) f := by (repeat (first | exact Has.here | apply Has.there))) : Da H q.u q.mv q.ev q.sv q.xs s := SV.at_ hk hM hh
theorem aL {s a : St} {pick e : Int} (h : doR s pick = (a, e)) (H : Heap) {rv mv ev sv : V} {xs : List MR} (ha : Da H rv mv ev sv xs s) (hf : s.Fit) :
  ∃ w H', Call Tryz.prog 42 [.agg (stC s.c rv mv ev sv), .int .i64 pick] H w H' ∧ ∃ q : SV, w = .tup [.agg (q.c a), .int .i64 e] ∧ q.Ok a ∧ Mem H H' [q.own a] := by
 have := cC H s rv mv ev sv xs ha hf pick
 rw [h] at this
 exact this
theorem bG (H : Heap) : Da H .AN .AN .AN .AN [] DN := ⟨⟨[], .inl ⟨rfl, rfl⟩, rfl, fun k p r hp => (by cases hp)⟩, .inl ⟨rfl, rfl⟩, rfl, fun x hx => (by cases hx), .inl ⟨rfl, rfl⟩, .inl ⟨rfl, rfl⟩⟩
def sumT : List (Chk × Int) → Int
 | [] => 0
 | m :: ms => m.1.t + sumT ms
theorem Ti : ∀ (ms : List (Chk × Int)) (p : Nat) (o x : Chk × Int), ms[p]? = some o → sumT (ms.set p x) = sumT ms - o.1.t + x.1.t
 | [], p, o, x, h => by simp at h
 | a :: ms, 0, o, x, h => by
  simp at h; subst h
  show x.1.t + sumT ms = a.1.t + sumT ms - a.1.t + x.1.t
  omega
 | a :: ms, p + 1, o, x, h => by
  have := Ti ms p o x (by simpa using h)
  show a.1.t + sumT (ms.set p x) = a.1.t + sumT ms - o.1.t + x.1.t
  omega
theorem WK : ∀ (ms : List (Chk × Int)) (b : Int), (∀ m ∈ ms, m.1.t ≤ b) → sumT ms ≤ b * ms.length
 | [], b, _ => by simp [sumT]
 | a :: ms, b, h => by
  have := WK ms b fun m hm => h m (List.mem_cons_of_mem _ hm)
  have h1 := h a (List.mem_cons_self ..)
  show a.1.t + sumT ms ≤ b * ((ms.length + 1 : Nat) : Int)
  rw [Int.natCast_add, Int.mul_add]
  omega
theorem Mz : ∀ (ms : List (Chk × Int)), (∀ m ∈ ms, 0 ≤ m.1.t) → 0 ≤ sumT ms
 | [], _ => Int.le_refl _
 | a :: ms, h => by
  have := Mz ms fun m hm => h m (List.mem_cons_of_mem _ hm)
  have h1 := h a (List.mem_cons_self ..)
  show 0 ≤ a.1.t + sumT ms
  omega
structure DO (c : Cfg) (s : St) : Prop where
 ok : It s
 c : s.c = c
 evs : (s.es.length : Int) ≤ 3 * sumT s.ms
theorem Im {c : Cfg} {s : St} (h : DO c s) : s.es.length + 4 ≤ 1024 := by
 obtain ⟨hm, _, _, ht, _⟩ := AX h.ok.c
 have h1 := WK s.ms 32 fun m hm => by have := h.ok.tot m hm; omega
 have h2 := h.evs
 have h3 := h.ok.len
 omega
theorem GU {c : Cfg} (hc : Al c = true) : DO c (FX c) := by
 refine ⟨Eh (OO hc), rfl, ?_⟩
 have := Mz (FX c).ms fun m hm => (Ou ((Eh (OO hc)).fits m hm)).1
 show ((0 : Nat) : Int) ≤ _
 omega
theorem JT {c : Cfg} {s : St} (h : DO c s) {p : Nat} {o : Chk × Int} (hp : EN s p o) : DO c (doS s p) := by
 have hd := GP hp
 obtain ⟨x, hx, ht⟩ := hd.own
 refine ⟨Eh hd.may, hd.c.trans h.c, ?_⟩
 have e := Ti s.ms p o (Ci s p, GC s p) hp.at_
 have hx' : (s.ms.set p (Ci s p, GC s p))[p]? = some x := hx
 rw [List.getElem?_set_self (List.getElem?_eq_some_iff.1 hp.at_).1] at hx'
 cases hx'
 have e' : sumT (doS s p).ms = sumT s.ms + 1 := by
  show sumT (s.ms.set p (Ci s p, GC s p)) = _
  rw [e]
  simp only at ht ⊢
  omega
 have := hd.more
 have := h.evs
 omega
def DA (s : St) (x : Int) : Option St := if (doR s x).2 = 0 then some (doR s x).1 else if (doR s x).2 = 2301 then some s else none
def GA (c : Cfg) (ps : List Int) : Option St := ps.foldlM DA (FX c)
def JS (c : Cfg) (ps : List Int) : Bool := Al c && decide (ps.length ≤ 256)
def FH (c : Cfg) (ps : List Int) : St × Int := if JS c ps = true then (match GA c ps with | none => (DN, 2501) | some s => (s, 0)) else (DN, 2500)
theorem MU (c : Cfg) (ps : List Int) (x : Int) : GA c (ps ++ [x]) = (GA c ps).bind fun s => DA s x := by
 unfold GA
 rw [List.foldlM_append]
 show (List.foldlM DA (FX c) ps >>= fun s => (DA s x >>= fun t => pure t)) = _
 simp
theorem QJ {c : Cfg} {ps : List Int} {k : Nat} {x : Int} (h : ps[k]? = some x) : GA c (ps.take (k + 1)) = (GA c (ps.take k)).bind fun s => DA s x := by
 rw [List.take_add_one, h]
 exact MU c _ x
theorem QI {c : Cfg} {ps : List Int} {k : Nat} (h : GA c (ps.take k) = none) : GA c ps = none := by
 have : GA c (ps.take k ++ ps.drop k) = none := by
  unfold GA at h ⊢
  rw [List.foldlM_append, h]; rfl
 rwa [List.take_append_drop] at this
theorem En {c : Cfg} {s : St} (h : DO c s) (x : Int) : (∃ (p : Nat) (o : Chk × Int), x = (p : Int) ∧ EN s p o ∧ doR s x = (doS s p, 0) ∧ DA s x = some (doS s p)) ∨ (∃ (p : Nat) (o : Chk × Int), x = (p : Int) ∧ s.ms[p]? = some o ∧ o.1.t = s.c.total ∧ doR s x = (DN, 2301) ∧ DA s x = some s) ∨ ((x < 0 ∨ c.m ≤ x) ∧ doR s x = (DN, 2300) ∧ DA s x = none) := by
 have hl := h.ok.len
 rw [h.c] at hl
 by_cases hx : x < 0 ∨ c.m ≤ x
 ·have e := TE (s := s) (pick := x) (by omega)
  refine .inr (.inr ⟨hx, e, ?_⟩)
  unfold DA
  rw [e]; rfl
 ·have hp : x.toNat < s.ms.length := by omega
  have hxe : x = (x.toNat : Int) := by omega
  have ho := List.getElem?_eq_getElem hp
  by_cases ht : (s.ms[x.toNat]'hp).1.t = s.c.total
  ·have e := NN h.ok ho ht (Im h)
   rw [← hxe] at e
   refine .inr (.inl ⟨x.toNat, _, hxe, ho, ht, e, ?_⟩)
   unfold DA
   rw [e]; rfl
  ·have pk : EN s x.toNat (s.ms[x.toNat]'hp) := ⟨h.ok, ho, ht, Im h⟩
   have e := Nr pk
   rw [← hxe] at e
   refine .inl ⟨x.toNat, _, hxe, pk, e, ?_⟩
   unfold DA
   rw [e]; rfl
theorem Gs {c : Cfg} {s t : St} (h : DO c s) {x : Int} (hs : DA s x = some t) : DO c t ∧ t.es.take s.es.length = s.es := by
 rcases En h x with ⟨p, o, rfl, pk, _, e⟩ | ⟨p, o, rfl, _, _, _, e⟩ | ⟨_, _, e⟩
 ·rw [e] at hs; cases hs
  exact ⟨JT h pk, (GP pk).same⟩
 ·rw [e] at hs; cases hs
  exact ⟨h, List.take_length⟩
 ·rw [e] at hs; cases hs
theorem WE {c : Cfg} : ∀ (ps : List Int) (s t : St), DO c s → ps.foldlM DA s = some t → DO c t ∧ s.es.length ≤ t.es.length ∧ t.es.take s.es.length = s.es
 | [], s, t, h, e => by
  cases e
  exact ⟨h, Nat.le_refl _, List.take_length⟩
 | x :: ps, s, t, h, e => by
  rw [List.foldlM_cons] at e
  cases hx : DA s x with
  | none => rw [hx] at e; cases e
  | some u =>
   rw [hx] at e
   obtain ⟨h1, h2⟩ := Gs h hx
   obtain ⟨h3, h4, h5⟩ := WE ps u t h1 e
   have hlu : s.es.length ≤ u.es.length := by
    have := congrArg List.length h2
    rw [List.length_take] at this
    omega
   refine ⟨h3, by omega, ?_⟩
   have := congrArg (List.take s.es.length) h5
   rw [List.take_take, Nat.min_eq_left hlu, h2] at this
   exact this
theorem bT {c : Cfg} (hc : Al c = true) {ps : List Int} {s : St} (h : GA c ps = some s) : DO c s := (WE ps _ _ (GU hc) h).1
theorem TS {c : Cfg} : ∀ (ps : List Int) (s : St), DO c s → (∀ x ∈ ps, 0 ≤ x ∧ x < c.m) → ∃ t, ps.foldlM DA s = some t
 | [], s, _, _ => ⟨s, rfl⟩
 | x :: ps, s, h, hx => by
  have h1 := hx x (List.mem_cons_self ..)
  have go : ∀ u, DA s x = some u → ∃ t, (x :: ps).foldlM DA s = some t := fun u hu => by
   rw [List.foldlM_cons, hu]
   exact TS ps u (Gs h hu).1 fun y hy => hx y (List.mem_cons_of_mem _ hy)
  rcases En h x with ⟨p, o, rfl, pk, _, e⟩ | ⟨p, o, rfl, _, _, _, e⟩ | ⟨ho, _, e⟩
  ·exact go _ e
  ·exact go _ e
  ·omega
def PA (s : St) : St := { s with st := s.st.filter fun e => decide (e.n ≠ 0) }
theorem ZA {c : Cfg} {a : St} {e : Int} (h : Gy c = (a, e)) (H : Heap) (rv : V) (hr : Rows H rv c.rows) (hf : c.Fit) : ∃ w H', Call Tryz.prog 46 [.agg (BJ c rv)] H w H' ∧ ∃ q : SV, w = .tup [.agg (q.c a), .int .i64 e] ∧ q.Ok a ∧ Mem H H' [q.own a] := by
 have := gG H c rv hr hf
 rw [h] at this
 exact this
theorem Eu {B H' : Heap} {L : List Res} {r : St × Int} {e : Int} (hM : Mem B H' L) (hr : r = (DN, e)) : KD B r (.tup [.agg Au, .int .i64 e]) H' := by
 rw [hr]
 exact ⟨⟨.AN, .AN, .AN, .AN, [], []⟩, rfl, ZF, (Ue H').Yt hM.pre⟩
theorem Lb {c : Cfg} {ps : List Int} (h : JS c ps = false) : FH c ps = (DN, 2500) := by unfold FH; rw [h, if_neg (by decide)]
theorem TR {c : Cfg} {ps : List Int} (h1 : Al c = true) (h2 : ps.length ≤ 256) : JS c ps = true := by unfold JS; rw [h1, decide_eq_true h2]; rfl
theorem Sx {c : Cfg} (h : Al c = true) : Gy c = (FX c, 0) := by unfold Gy; rw [h, if_pos rfl]
theorem Sy {c : Cfg} (h : Al c = false) : Gy c = (DN, 2200) := by unfold Gy; rw [h, if_neg (by decide)]
theorem dE (H : Heap) (c : Cfg) (rv pv : V) (ps : List Int) (hr : Rows H rv c.rows) (cf : c.Fit) (hp : Sl 1 AH H pv ps) (hl : ps.length ≤ 2 ^ 47) :
  ∃ w H', Call Tryz.prog 17 [.agg (BJ c rv), pv] H w H' ∧ KD H (FH c ps) w H' := by
 have s0 : rv.cells = [rv] ∧ rv.isTup = false := by obtain ⟨_, h, _⟩ := hr; exact h.cells
 have hlen := hp.len T27 rfl
 obtain ⟨n, hn⟩ : ∃ n, ps.length = n := ⟨_, rfl⟩
 rw [hn] at hlen
 refine Ao fit mixed Tryz.func17 rfl rfl rfl (by kernel_rfl) fun hM => ?_
 refine AO (AK ?_)
 refine Ax T26 fun b2 H1 hM => ?_
 refine Aj (cs := Au) T32 rfl fun b4 H2 hM => ?_
 cases hc : Al c with
 | false =>
  have hn := Sy hc
  have hbad := Lb (ps := ps) (show JS c ps = false by unfold JS; rw [hc]; rfl)
  refine goM ?_
  obtain ⟨_, H3, c1, q, rfl, k1, m1⟩ := ZA hn H2 rv (hr.mono hM.pre) cf
  refine AA c1 ?_
  replace hM := hM.BH m1
  clear c1 m1 hn hc
  refine goM ?_
  refine Aj (cs := Au) T32 rfl fun b6 H4 hM => ?_
  refine AM T32 fun H5 hM => ?_
  refine goM ?_
  refine AM T32 fun H6 hM => ?_
  refine goM ?_
  exact An (Eu hM hbad)
 | true =>
  have hne := Sx hc
  have nf := Sw cf
  rw [hne] at nf
  simp only at nf
  refine goM ?_
  obtain ⟨_, H3, c1, q, rfl, k1, m1⟩ := ZA hne H2 rv (hr.mono hM.pre) cf
  refine AA c1 ?_
  replace hM := hM.BH m1
  clear c1 m1 hne
  refine goM ?_
  refine Aj (cs := Au) T32 rfl fun b6 H4 hM => ?_
  refine AM T32 fun H5 hM => ?_
  by_cases h256 : n ≤ 256
  ·have d1 : decide ((n : Int) > 256) = false := decide_eq_false (by omega)
   have hok := TR hc (ps := ps) (by omega)
   have hrn : ∀ {s}, GA c ps = some s → FH c ps = (s, 0) := fun h => by unfold FH; rw [hok, if_pos rfl, h]
   have hrx : GA c ps = none → FH c ps = (DN, 2501) := fun h => by unfold FH; rw [hok, if_pos rfl, h]
   have hM0 : Mem H H5 [.box b6 (q.c (FX c)), q.own (FX c), .box b4 Au] := hM.Ea
   have hr0 := GU hc
   clear hok
   refine goM ?_
   refine AT (fun cc ρ h => ∃ (k : Nat) (s : St) (q : SV), k ≤ n ∧ cc = n - k ∧ GA c (ps.take k) = some s ∧ DO c s ∧ s.Fit ∧ q.Ok s ∧ Mem H h [.box b6 (q.c s), q.own s, .box b4 Au] ∧ ρ 4 = .ptr b4 0 ∧ ρ 6 = .ptr b6 0 ∧ ρ 25 = pv ∧ ρ 26 = .int .i64 (n : Int) ∧ ρ 27 = .int .i64 (k : Int)) ⟨0, FX c, q, Nat.zero_le _, rfl, rfl, hr0, nf, k1, hM0, by simp [AD, AB, BT, *]⟩ ?_
   repeat clear hM
   clear hM0 hr0 nf k1 d1
   rintro _ ρ h ⟨k, s, q, hk, rfl, hrk, hrs, sf, hq, hM, g4, g6, g25, g26, g27⟩
   refine goM ?_
   refine AE (fun hb => ?_) (fun hb => ?_)
   ·have hk' : k < n := by simpa using hb
    clear hb
    obtain ⟨x, hx⟩ : ∃ x, ps[k]? = some x := ⟨ps[k]'(by omega), by simp⟩
    obtain ⟨bo, oo, _, ji, rfl, _, jlo, _⟩ := (hp.mono hM.pre).get T27 rfl T3 rfl hx
    have jl := AF T3 rfl jlo
    have hw := AG (n := k) (by omega)
    have hstep := QJ (c := c) hx
    rw [hrk, Option.bind_some] at hstep
    clear jlo hx hrk
    rcases En hrs x with ⟨p, o, rfl, pk, hd, hs⟩ | ⟨p, o, rfl, _, _, hd, hs⟩ | ⟨_, hd, hs⟩
    ·rw [hs] at hstep
     have hrs2 := JT hrs pk
     have sf2 := UI pk sf
     clear pk hs
     generalize doS s p = s2 at *
     refine goM ?_
     obtain ⟨_, H6, c1, q2, rfl, k2, m1⟩ := aL hd h (hq.at_ hM) sf
     refine AA c1 ?_
     replace hM := hM.BH m1
     clear c1 m1 hd
     refine goM ?_
     refine Aj (cs := Au) T32 rfl fun b10 H7 hM => ?_
     refine AM T32 fun H8 hM => ?_
     refine goM ?_
     refine AM T32 fun H9 hM => ?_
     refine goM ?_
     exact ⟨n - (k + 1), by omega, k + 1, s2, q2, hk', rfl, hstep, hrs2, sf2, k2, ((hM.front (r := q2.own s2) tkG).front (r := .box b6 (q2.c s2)) tkG).sub sbG, by simp [AD, AB, *]⟩
    ·rw [hs] at hstep
     clear hs
     refine goM ?_
     obtain ⟨_, H6, c1, q2, rfl, k2, m1⟩ := aL hd h (hq.at_ hM) sf
     refine AA c1 ?_
     replace hM := hM.BH m1
     clear c1 m1 hd
     refine goM ?_
     refine Aj (cs := Au) T32 rfl fun b10 H7 hM => ?_
     refine AM T32 fun H8 hM => ?_
     refine goM ?_
     exact ⟨n - (k + 1), by omega, k + 1, s, q, hk', rfl, hstep, hrs, sf, hq, hM.Ea, by simp [AD, AB, *]⟩
    ·rw [hs] at hstep
     have hno := hrx (QI hstep)
     clear hs hstep hrx
     refine goM ?_
     obtain ⟨_, H6, c1, q2, rfl, k2, m1⟩ := aL hd h (hq.at_ hM) sf
     refine AA c1 ?_
     replace hM := hM.BH m1
     clear c1 m1 hd
     refine goM ?_
     refine Aj (cs := Au) T32 rfl fun b10 H7 hM => ?_
     refine AM T32 fun H8 hM => ?_
     refine goM ?_
     refine AM T32 fun H9 hM => ?_
     refine goM ?_
     exact An (Eu hM hno)
   ·have hk' : k = n := by have : ¬ k < n := by simpa using hb
                           omega
    clear hb
    rw [List.take_of_length_le (by omega)] at hrk
    have hend := hrn hrk
    clear hrk hrx hk
    refine goM ?_
    refine AM T32 fun H6 hM => ?_
    refine goM ?_
    refine An ?_
    rw [hend]
    exact ⟨q, rfl, hq, hM.Ea⟩
  ·have d1 : decide ((n : Int) > 256) = true := decide_eq_true (by omega)
   have hbad := Lb (c := c) (ps := ps) (by unfold JS; rw [decide_eq_false (by omega), Bool.and_false])
   clear h256 hc
   refine goM ?_
   refine AM T32 fun H6 hM => ?_
   refine goM ?_
   exact An (Eu hM hbad)
end Go.Proofs.YtncjbjlmgnjhiaaGreat.VM
