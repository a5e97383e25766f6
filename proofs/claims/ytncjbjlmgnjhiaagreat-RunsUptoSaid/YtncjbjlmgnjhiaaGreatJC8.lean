/- Joined texts: TrainG, StoreG, StoreL, MembD, MembE, TrainH, EvP, CtlP, RankA, RankB, RankC, ChoiceA. -/
import Derived.Test.YtncjbjlmgnjhiaaGreatJC3
import Derived.Test.YtncjbjlmgnjhiaaGreatJC4
import Derived.Test.YtncjbjlmgnjhiaaGreatJC5
import Derived.Test.YtncjbjlmgnjhiaaGreatJC6
import Derived.Test.YtncjbjlmgnjhiaaGreatJC7
namespace Go.Proofs.YtncjbjlmgnjhiaaGreat.VM
open Go
set_option linter.unusedVariables false
set_option linter.unusedSimpArgs false
attribute [local irreducible] wq wqL wqD wqE wqO Th Bk EndR
set_option maxHeartbeats 8000000
theorem Sl.map {α β : Type} {sz : Nat} {R : List V → α → Prop} {R' : List V → β → Prop} {H : Heap} {v : V} {xs : List α} (f : α → β) (h : Sl sz R H v xs) (hf : ∀ cs x, R cs x → R' cs (f x)) : Sl sz R' H v (xs.map f) := by
 rcases h with ⟨rfl, rfl⟩ | ⟨b, off, cap, t, cs, wr, rfl, h1, h2, h3, h4⟩
 ·exact .inl ⟨rfl, rfl⟩
 ·refine .inr ⟨b, off, cap, t, cs, wr, by rw [List.length_map], by rw [List.length_map]; exact h1, h2, by rw [List.length_map]; exact h3, fun k y hy => ?_⟩
  rw [List.getElem?_map] at hy
  cases hx : xs[k]? with
  | none => rw [hx] at hy; cases hy
  | some x => rw [hx] at hy; cases hy; exact hf _ _ (h4 k x hx)
theorem Sl.all {α : Type} {sz : Nat} {R : List V → α → Prop} {Q : α → Prop} {H : Heap} {v : V} {xs : List α} (h : Sl sz R H v xs) (hf : ∀ cs x, R cs x → Q x) : ∀ x ∈ xs, Q x := fun x hx => by
 obtain ⟨k, hk⟩ := List.mem_iff_getElem?.1 hx
 rcases h with ⟨rfl, rfl⟩ | ⟨b, off, cap, t, cs, wr, rfl, h1, h2, h3, h4⟩
 ·cases hx
 ·exact hf _ _ (h4 k x hk)
theorem PU {K : Heap} {D : Type} {vs : List V} {d : DataW D} (h : Rd T K 23 vs d) : ∃ a b, vs = [.int .i64 a, .int .i64 b] := by
 obtain ⟨hl, hf⟩ := h.field T23 rfl
 replace hl : vs.length = 2 := hl
 obtain ⟨x0, h0⟩ := hf 0 _ _ rfl T3
 obtain ⟨x1, h1⟩ := hf 1 _ _ rfl T3
 obtain ⟨n0, e0, _⟩ := h0.isInt T3 rfl
 obtain ⟨n1, e1, _⟩ := h1.isInt T3 rfl
 match vs, hl, e0, e1 with
 | [a, b], _, e0, e1 =>
  simp at e0 e1
  subst e0; subst e1
  exact ⟨n0, n1, rfl⟩
def eX (K : Heap) (cs : List V) (p : (V × Int) × List Int) : Prop := cs = [p.1.1, .int .i64 p.1.2] ∧ Sl 1 AH K p.1.1 p.2 ∧ p.2.length * 8 ≤ 140737488351232
theorem bQ {K : Heap} {D : Type} {v : V} {d : DataW D} (h : RdV T K 24 v d) : ∃ rs, Rows K v rs ∧ rs.length * 32 ≤ 140737488351232 ∧ ∀ r ∈ rs, r.1.length * 8 ≤ 140737488351232 := by
 obtain ⟨xs, h1, h2⟩ := (h.plain T24 rfl).isSlice (R := eX K) T24 rfl GD fun cs x hx => by
  obtain ⟨x, xs, y, e, e1, e2⟩ := TL hx
  exact ⟨((x, y), xs), e, e1, Nat.le_trans e2 (by decide)⟩
 have h3 := h1.all (Q := fun p => Sl 1 AH K p.1.1 p.2 ∧ p.2.length * 8 ≤ 140737488351232) fun cs x hx => hx.2
 refine ⟨xs.map fun p => (p.2, p.1.2), ⟨xs.map (·.1), h1.map (R' := Dg) (fun p => p.1) fun cs x hx => (show Dg cs x.1 from hx.1), by simp, fun k p r hp hr => ?_⟩, by rw [List.length_map]; exact Nat.le_trans h2 (by decide), fun r hr => ?_⟩
 ·rw [List.getElem?_map] at hp hr
  cases hx : xs[k]? with
  | none => rw [hx] at hp; cases hp
  | some x =>
   rw [hx] at hp hr
   cases hp; cases hr
   exact ⟨(h3 x (List.mem_iff_getElem?.2 ⟨k, hx⟩)).1, rfl⟩
 ·obtain ⟨x, hx, rfl⟩ := List.mem_map.1 hr
  exact (h3 x hx).2
theorem XR {K : Heap} {D : Type} {v : V} {d : DataW D} (h : RdV T K 26 v d) : ∃ c rv, v = .agg (BJ c rv) ∧ Rows K rv c.rows ∧ c.Fit := by
 obtain ⟨vs, rfl, hr⟩ := h.agg T26 rfl
 obtain ⟨hl, hf⟩ := hr.field T26 rfl
 replace hl : vs.length = 9 := hl
 obtain ⟨x0, h0⟩ := hf 0 _ _ rfl T3
 obtain ⟨x1, h1⟩ := hf 1 _ _ rfl T23
 obtain ⟨x2, h2⟩ := hf 2 _ _ rfl T24
 obtain ⟨x3, h3⟩ := hf 3 _ _ rfl T3
 obtain ⟨x4, h4⟩ := hf 4 _ _ rfl T3
 obtain ⟨x5, h5⟩ := hf 5 _ _ rfl T3
 obtain ⟨x6, h6⟩ := hf 6 _ _ rfl T3
 obtain ⟨x7, h7⟩ := hf 7 _ _ rfl T4
 obtain ⟨n0, e0, _⟩ := h0.isInt T3 rfl
 obtain ⟨n1, n2, e1⟩ := PU h1
 obtain ⟨n3, e3, _⟩ := h3.isInt T3 rfl
 obtain ⟨n4, e4, _⟩ := h4.isInt T3 rfl
 obtain ⟨n5, e5, _⟩ := h5.isInt T3 rfl
 obtain ⟨n6, e6, _⟩ := h6.isInt T3 rfl
 obtain ⟨n7, e7⟩ := h7.isBool T4 rfl
 match vs, hl, e0, e1, h2, e3, e4, e5, e6, e7 with
 | [a0, a1, a2, a3, a4, a5, a6, a7, a8], _, e0, e1, h2, e3, e4, e5, e6, e7 =>
  simp at e0 e1 e3 e4 e5 e6 e7
  obtain ⟨rfl, rfl⟩ := e1
  subst e0; subst e3; subst e4; subst e5; subst e6; subst e7
  obtain ⟨rs, q1, q2, q3⟩ := bQ ⟨_, T24, .inr ⟨rfl, h2⟩⟩
  exact ⟨⟨n0, n1, n2, rs, n3, n4, n5, n6, n7⟩, a3, rfl, q1, ⟨q2, q3⟩⟩
def Pc (a b : Ent) : Bool := a.id == b.id && (EF a.tx b.tx && (a.n == b.n && true))
theorem Lx {a b : Ent} : Pc a b = true ↔ a = b := by
 obtain ⟨i, t, n⟩ := a
 obtain ⟨j, u, m⟩ := b
 unfold Pc
 simp only [Bool.and_eq_true, beq_iff_eq, Ft, Bool.and_true, Ent.mk.injEq]
theorem eO (a b : Ent) : vbin T .neq 63 (.agg (Hy a)) (.agg (Hy b)) = some (.bool (!Pc a b)) := by
 unfold Pc
 rw [← GB]
 simp only [vbin, T63]; rfl
def entsEq : List Ent → List Ent → Bool
 | [], [] => true
 | x :: xs, y :: ys => Pc x y && entsEq xs ys
 | _, _ => false
theorem KL : ∀ {xs ys : List Ent}, entsEq xs ys = true ↔ xs = ys
 | [], [] => by simp [entsEq]
 | [], y :: ys => by simp [entsEq]
 | x :: xs, [] => by simp [entsEq]
 | x :: xs, y :: ys => by
  simp only [entsEq, Bool.and_eq_true, Lx, KL, List.cons.injEq]
theorem Mm (xs : List Ent) : entsEq xs xs = true := KL.2 rfl
theorem Pd {xs ys : List Ent} (h : xs ≠ ys) : entsEq xs ys = false := by
 rw [Bool.eq_false_iff]; intro he; exact h (KL.1 he)
theorem Xf (H : Heap) (u v : V) (xs ys : List Ent) (hx : Sl 3 BE H u xs) (hy : Sl 3 BE H v ys) (lx : xs.length ≤ 2 ^ 47) : Call Tryz.prog 62 [u, v] H (.bool (entsEq xs ys)) H := by
 refine AQ fit mixed Tryz.func62 rfl rfl rfl (by kernel_rfl) rfl fun hM => ?_
 have hlx := hx.len T30 rfl
 have hly := hy.len T30 rfl
 obtain ⟨n, hn⟩ : ∃ n, xs.length = n := ⟨_, rfl⟩
 obtain ⟨m, hm⟩ : ∃ m, ys.length = m := ⟨_, rfl⟩
 rw [hn] at hlx
 rw [hm] at hly
 by_cases hnm : n = m
 ·subst hnm
  have d : ((n : Int) != (n : Int)) = false := by simp
  refine goM ?_
  refine AT (fun c ρ h => ∃ k : Nat, k ≤ n ∧ c = n - k ∧ h = H ∧ xs.take k = ys.take k ∧ ρ 0 = u ∧ ρ 1 = v ∧ ρ 5 = .int .i64 (k : Int)) ⟨0, Nat.zero_le _, rfl, rfl, by simp, rfl, rfl, rfl⟩ ?_
  clear hM d
  rintro _ ρ h ⟨k, hk, rfl, rfl, hsame, h0, h1, h5⟩
  refine goM ?_
  refine AE (fun hb => ?_) (fun hb => ?_)
  ·have hk' : k < n := by simpa using hb
   clear hb
   obtain ⟨x, hxk⟩ : ∃ e, xs[k]? = some e := ⟨xs[k]'(by omega), by simp⟩
   obtain ⟨y, hyk⟩ : ∃ e, ys[k]? = some e := ⟨ys[k]'(by omega), by simp⟩
   obtain ⟨b, o, hi, hlo, _⟩ := CV hx hxk
   obtain ⟨b2, o2, hi2, hlo2, _⟩ := CV hy hyk
   have hw := AG (n := k) (by omega)
   have hne := eO x y
   cases hq : Pc x y with
   | true =>
    rw [hq] at hne
    have ht := Mb hsame hxk hyk (Lx.1 hq)
    clear hq hxk hyk
    repeat (first | (refine Bz ?_; refine CU (EC eLk eLk hne) ?_) | (refine Bs ?_; refine OE ?_) | (refine Bz ?_; refine Nq ?_) | (refine CG ?_; first | refine BO ?_ | refine At ?_ | refine KU ?_) | (refine CF ?_; first | refine BS ?_ | refine Aw ?_ | refine KJ ?_) | (refine IU ?_; first | refine Gc ?_ | refine IT ?_) | refine AO ?_ | refine AK ?_ | refine Ae (by decide +kernel) ?_ | refine AW ?_ | refine BN ?_ | refine BM ?_ | refine Ah ?_ | refine As ?_ | refine Ag ?_ | refine AR ?_ | refine Ar ?_ | refine Ad ?_ | refine AS ?_ | refine Aq ?_ | refine Ac ?_ | refine AV rfl ?_)
    exact ⟨n - (k + 1), by omega, k + 1, hk', rfl, rfl, ht, by simp [AD, AB, *]⟩
   | false =>
    rw [hq] at hne
    have hno : entsEq xs ys = false := Pd fun e => by
     subst e
     rw [hxk] at hyk
     cases hyk
     rw [Lx.2 rfl] at hq; cases hq
    rw [hno]
    clear hq hxk hyk hno
    repeat (first | (refine Bz ?_; refine CU (EC eLk eLk hne) ?_) | (refine Bs ?_; refine OE ?_) | (refine Bz ?_; refine Nq ?_) | (refine CG ?_; first | refine BO ?_ | refine At ?_ | refine KU ?_) | (refine CF ?_; first | refine BS ?_ | refine Aw ?_ | refine KJ ?_) | (refine IU ?_; first | refine Gc ?_ | refine IT ?_) | refine AO ?_ | refine AK ?_ | refine Ae (by decide +kernel) ?_ | refine AW ?_ | refine BN ?_ | refine BM ?_ | refine Ah ?_ | refine As ?_ | refine Ag ?_ | refine AR ?_ | refine Ar ?_ | refine Ad ?_ | refine AS ?_ | refine Aq ?_ | refine Ac ?_ | refine AV rfl ?_)
    exact AY ⟨rfl, List.prefix_refl _⟩
  ·have hk' : k = n := by have : ¬ k < n := by simpa using hb
                          omega
   subst hk'
   clear hb
   rw [List.take_of_length_le (by omega), List.take_of_length_le (by omega)] at hsame
   rw [hsame, Mm]
   clear hsame
   refine goM ?_
   exact AY ⟨rfl, List.prefix_refl _⟩
 ·have d : ((n : Int) != (m : Int)) = true := by simp; omega
  have hno : entsEq xs ys = false := Pd fun e => by subst e; omega
  rw [hno]
  clear hno hnm
  refine goM ?_
  exact AY ⟨rfl, List.prefix_refl _⟩
theorem LU (es : List Ent) (s : ByteArray) : (putS es s).1.length ≤ 65 := by
 unfold putS
 split
 ·simp
 ·rename_i h
  have hm : Az es = true := by
   cases hq : Az es with
   | true => rfl
   | false => rw [hq] at h; simp at h
  have := (Cd hm).len
  split
  ·split
   ·simp
   ·simp only [GF]; split <;> (try simp) <;> omega
  ·split
   ·simp
   ·simp only [List.length_append, List.length_cons, List.length_take, List.length_drop]; omega
theorem Oz (es : List Ent) : (EE es).1.length ≤ 65 := by
 unfold EE
 split
 ·simp
 ·rename_i h
  have hm : Az es = true := by
   cases hq : Az es with
   | true => rfl
   | false => exact absurd hq h
  have := (Cd hm).len
  have := List.length_filter_le (fun e : Ent => decide (e.n ≠ 0)) es
  simp only
  omega
def LM (e : Ent) : Int × ByteArray := (e.id, e.tx)
theorem Xi {es es' : List Ent} (h : Bx es) (hk : es'.map LM = es.map LM) (ho : ∀ e ∈ es', Gf e = true) : Bx es' := by
 have hl : es'.length = es.length := by have := congrArg List.length hk; simpa using this
 have at_ : ∀ (i : Nat) x, es'[i]? = some x → ∃ y, es[i]? = some y ∧ y.id = x.id ∧ y.tx = x.tx := fun i x hx => by
  have h1 : (es'.map LM)[i]? = some (LM x) := by rw [List.getElem?_map, hx]; rfl
  rw [hk, List.getElem?_map] at h1
  cases hy : es[i]? with
  | none => rw [hy] at h1; cases h1
  | some y =>
   rw [hy] at h1
   have := Option.some.inj h1
   unfold LM at this
   exact ⟨y, rfl, by rw [(Prod.mk.inj this).1], by rw [(Prod.mk.inj this).2]⟩
 refine ⟨by rw [hl]; exact h.len, ho, fun i j x y hij hx hy => ?_, fun i j x y hx hy he => ?_⟩
 ·obtain ⟨x', a1, a2, _⟩ := at_ i x hx
  obtain ⟨y', b1, b2, _⟩ := at_ j y hy
  have := h.up i j x' y' hij a1 b1
  omega
 ·obtain ⟨x', a1, _, a3⟩ := at_ i x hx
  obtain ⟨y', b1, _, b3⟩ := at_ j y hy
  exact h.one i j x' y' a1 b1 (by rw [a3, b3, he])
theorem Iy (es : List Ent) (k : Nat) (d : Int) : (GF es k d).map LM = es.map LM := by
 unfold GF
 split
 ·rfl
 ·rename_i e he
  rw [List.map_set]
  apply List.ext_getElem?
  intro i
  by_cases hi : k = i
  ·subst hi
   rw [List.getElem?_set_self (by simpa using (List.getElem?_eq_some_iff.1 he).1), List.getElem?_map, he]; rfl
  ·rw [List.getElem?_set_ne hi]
theorem IQ {es : List Ent} (h : Bx es) {k : Nat} {e : Ent} (he : es[k]? = some e) {d : Int} (hd : 0 ≤ e.n + d ∧ e.n + d ≤ 8) : Bx (GF es k d) := by
 refine Xi h (Iy es k d) fun x hx => ?_
 rw [Ec d he] at hx
 rcases List.mem_or_eq_of_mem_set hx with hx | rfl
 ·exact h.ok x hx
 ·have := h.ok e (List.mem_of_getElem? he)
  unfold Gf at this ⊢
  simp only [Bool.and_eq_true, within_iff] at this ⊢
  exact ⟨this.1, hd⟩
theorem Ni (es : List Ent) (k : Nat) (d : Int) : (GF es k d).length = es.length := by
 have := congrArg List.length (Iy es k d); simpa using this
theorem WX {es : List Ent} {k : Nat} {e : Ent} (he : es[k]? = some e) : GF (GF es k 1) k (-1) = es := by
 have hlt := (List.getElem?_eq_some_iff.1 he).1
 rw [Ec (-1) (e := ⟨e.id, e.tx, e.n + 1⟩) (by rw [Ec 1 he, List.getElem?_set_self hlt]), Ec 1 he, List.set_set]
 apply List.ext_getElem?
 intro i
 by_cases hi : k = i
 ·subst hi
  rw [List.getElem?_set_self hlt, he]
  congr 1
  obtain ⟨a, b, c⟩ := e
  simp only
  congr 1
  omega
 ·rw [List.getElem?_set_ne hi]
theorem SI {es : List Ent} (h : Bx es) {k : Nat} {e : Ent} (he : es[k]? = some e) : DD es e.id = k := by
 have hlt := (List.getElem?_eq_some_iff.1 he).1
 unfold DD
 rw [List.findIdx_eq hlt]
 have hel : es[k] = e := by rw [List.getElem?_eq_getElem hlt] at he; exact Option.some.inj he
 refine ⟨by rw [hel]; exact decide_eq_true rfl, fun j hj => ?_⟩
 have := h.up j k (es[j]'(by omega)) e hj (by simp) he
 simp; omega
theorem get_some {es : List Ent} (h : Bx es) {k : Nat} {e : Ent} (he : es[k]? = some e) : Cl es e.id = (e.tx, true) := by
 unfold Cl
 rw [EV h, if_neg (by decide), SI h he, he]
theorem get_none {es : List Ent} (h : Bx es) {id : Int} (hn : ∀ e ∈ es, e.id ≠ id) : Cl es id = (⟨#[]⟩, false) := by
 unfold Cl
 rw [EV h, if_neg (by decide)]
 cases hf : es[DD es id]? with
 | none => rfl
 | some e =>
  have hlt := (List.getElem?_eq_some_iff.1 hf).1
  have := List.findIdx_getElem (xs := es) (p := fun e : Ent => decide (e.id = id)) (w := hlt)
  have hel : es[DD es id] = e := by rw [List.getElem?_eq_getElem hlt] at hf; exact Option.some.inj hf
  exact absurd (by rw [← hel]; exact of_decide_eq_true this) (hn e (List.mem_of_getElem? hf))
theorem SQ {es es' : List Ent} (h : Bx es) (h' : Bx es') {id : Int} (h1 : ∀ e ∈ es, e.id = id → ∃ x ∈ es', x.id = id ∧ x.tx = e.tx) (h2 : ∀ x ∈ es', x.id = id → ∃ e ∈ es, e.id = id) : Cl es' id = Cl es id := by
 by_cases hx : ∃ e ∈ es, e.id = id
 ·obtain ⟨e, he, hid⟩ := hx
  obtain ⟨x, hxm, hxi, hxt⟩ := h1 e he hid
  obtain ⟨i, hi⟩ := List.mem_iff_getElem?.1 he
  obtain ⟨j, hj⟩ := List.mem_iff_getElem?.1 hxm
  have a := get_some h hi
  have b := get_some h' hj
  rw [hid] at a
  rw [hxi] at b
  rw [a, b, hxt]
 ·rw [get_none h fun e he hid => hx ⟨e, he, hid⟩, get_none h' fun x hxm hid => hx (h2 x hxm hid)]
theorem Qx {es es' : List Ent} (hk : es'.map LM = es.map LM) {e : Ent} (he : e ∈ es) : ∃ x ∈ es', x.id = e.id ∧ x.tx = e.tx := by
 have : LM e ∈ es'.map LM := by rw [hk]; exact List.mem_map_of_mem he
 obtain ⟨x, hx, hxe⟩ := List.mem_map.1 this
 unfold LM at hxe
 exact ⟨x, hx, (Prod.mk.inj hxe).1, (Prod.mk.inj hxe).2⟩
theorem Ve {es es' : List Ent} (h : Bx es) (h' : Bx es') (hk : es'.map LM = es.map LM) (id : Int) : Cl es' id = Cl es id :=
 SQ h h' (fun e he hid => by
  obtain ⟨x, a, b, c⟩ := Qx hk he
  exact ⟨x, a, by rw [b, hid], c⟩) fun x hx hid => by
  obtain ⟨e, a, b, _⟩ := Qx hk.symm hx
  exact ⟨e, a, by rw [b, hid]⟩
theorem Jz : ∀ (es : List Ent) (k : Nat), ∃ d, freeFrom es k = k + d ∧ d ≤ es.length ∧ (∀ (j : Nat) e, j < d → es[j]? = some e → e.id = ((k + j : Nat) : Int)) ∧ (∀ e, es[d]? = some e → e.id ≠ ((k + d : Nat) : Int))
 | [], k => ⟨0, rfl, by simp, by intro j e h; omega, by simp⟩
 | e :: es, k => by
  by_cases he : e.id = (k : Int)
  ·obtain ⟨d, h1, h2, h3, h4⟩ := Jz es (k + 1)
   refine ⟨d + 1, ?_, by simpa using h2, fun j x hj hx => ?_, fun x hx => ?_⟩
   ·simp only [freeFrom, he, if_true]
    rw [h1]; omega
   ·cases j with
    | zero => simp at hx; subst hx; simpa using he
    | succ j =>
     have := h3 j x (by omega) (by simpa using hx)
     rw [this]; congr 1; omega
   ·have := h4 x (by simpa using hx)
    rw [show k + (d + 1) = k + 1 + d by omega]
    exact this
  ·refine ⟨0, ?_, Nat.zero_le _, by intro j x h; omega, fun x hx => ?_⟩
   ·simp only [freeFrom, he, if_false]; rfl
   ·simp at hx; subst hx; simpa using he
theorem Cn (es : List Ent) : Bh es ≤ es.length ∧ (∀ (j : Nat) e, j < Bh es → es[j]? = some e → e.id = (j : Int)) ∧ (∀ e, es[Bh es]? = some e → e.id ≠ (Bh es : Int)) := by
 obtain ⟨d, h1, h2, h3, h4⟩ := Jz es 0
 have : Bh es = d := by unfold Bh; rw [h1]; omega
 rw [this]
 refine ⟨h2, fun j e hj he => by have := h3 j e hj he; rw [this]; congr 1; omega, fun e he => by have := h4 e he; rwa [Nat.zero_add] at this⟩
theorem Gk {es : List Ent} (h : Bx es) {j : Nat} {e : Ent} (hj : Bh es ≤ j) (he : es[j]? = some e) : (Bh es : Int) < e.id := by
 obtain ⟨h1, h2, h3⟩ := Cn es
 have base : ∀ x, es[Bh es]? = some x → (Bh es : Int) < x.id := fun x hx => by
  have hne := h3 x hx
  have hok := h.ok x (List.mem_of_getElem? hx)
  unfold Gf at hok
  simp only [Bool.and_eq_true, within_iff] at hok
  have hge : (Bh es : Int) ≤ x.id := by
   cases hz : Bh es with
   | zero => exact hok.1.1.1
   | succ m =>
    rw [hz] at hx h2
    have hlt := (List.getElem?_eq_some_iff.1 hx).1
    have hp : es[m]? = some (es[m]'(by omega)) := by simp
    have a := h2 m _ (Nat.lt_succ_self m) hp
    have b := h.up m (m + 1) _ x (Nat.lt_succ_self m) hp hx
    omega
  omega
 rcases Nat.lt_or_eq_of_le hj with h4 | h4
 ·have hlt := (List.getElem?_eq_some_iff.1 he).1
  have hp : es[Bh es]? = some (es[Bh es]'(by omega)) := by simp
  have a := base _ hp
  have b := h.up _ _ _ e h4 hp he
  omega
 ·subst h4; exact base e he
def JJ (es : List Ent) (s : ByteArray) (n : Int) : List Ent := es.take (Bh es) ++ ⟨(Bh es : Int), s, n⟩ :: es.drop (Bh es)
theorem LK {es : List Ent} (s : ByteArray) (n : Int) {i : Nat} {x : Ent} (hx : (JJ es s n)[i]? = some x) : (i < Bh es ∧ es[i]? = some x) ∨ (i = Bh es ∧ x = ⟨(Bh es : Int), s, n⟩) ∨ (Bh es < i ∧ es[i - 1]? = some x) := by
 have h1 := (Cn es).1
 have hl : (es.take (Bh es)).length = Bh es := by rw [List.length_take]; omega
 unfold JJ at hx
 by_cases hi : i < Bh es
 ·rw [List.getElem?_append_left (by omega), List.getElem?_take, if_pos hi] at hx
  exact .inl ⟨hi, hx⟩
 ·rw [List.getElem?_append_right (by omega), hl] at hx
  by_cases hi2 : i = Bh es
  ·subst hi2
   rw [Nat.sub_self] at hx
   simp at hx
   exact .inr (.inl ⟨rfl, hx.symm⟩)
  ·obtain ⟨d, hd⟩ : ∃ d, i - Bh es = d + 1 := ⟨i - Bh es - 1, by omega⟩
   rw [hd, List.getElem?_cons_succ, List.getElem?_drop] at hx
   refine .inr (.inr ⟨by omega, ?_⟩)
   rw [show i - 1 = Bh es + d by omega]
   exact hx
theorem Po {es : List Ent} (h : Bx es) {s : ByteArray} {n : Int} (ht : DX s = true) (hn : 0 ≤ n ∧ n ≤ 8) (hno : ∀ e ∈ es, e.tx ≠ s) (hl : es.length < 64) : Bx (JJ es s n) := by
 obtain ⟨h1, h2, h3⟩ := Cn es
 refine ⟨?_, fun e he => ?_, fun i j x y hij hx hy => ?_, fun i j x y hx hy he => ?_⟩
 ·unfold JJ
  simp only [List.length_append, List.length_cons, List.length_take, List.length_drop]; omega
 ·obtain ⟨i, hi⟩ := List.mem_iff_getElem?.1 he
  rcases LK s n hi with ⟨_, g⟩ | ⟨_, rfl⟩ | ⟨_, g⟩
  ·exact h.ok e (List.mem_of_getElem? g)
  ·show (within (Bh es : Int) 0 1024 && DX s && within n 0 8) = true
   rw [ht, within_iff.2 ⟨by omega, by omega⟩, within_iff.2 hn]; rfl
  ·exact h.ok e (List.mem_of_getElem? g)
 ·rcases LK s n hx with ⟨a1, a2⟩ | ⟨a1, rfl⟩ | ⟨a1, a2⟩ <;> rcases LK s n hy with ⟨b1, b2⟩ | ⟨b1, rfl⟩ | ⟨b1, b2⟩
  ·exact h.up i j x y hij a2 b2
  ·have := h2 i x a1 a2
   simp only; omega
  ·exact h.up i (j - 1) x y (by omega) a2 b2
  ·omega
  ·omega
  ·have := Gk h (j := j - 1) (by omega) b2
   simp only; omega
  ·omega
  ·omega
  ·exact h.up (i - 1) (j - 1) x y (by omega) a2 b2
 ·rcases LK s n hx with ⟨a1, a2⟩ | ⟨a1, rfl⟩ | ⟨a1, a2⟩ <;> rcases LK s n hy with ⟨b1, b2⟩ | ⟨b1, rfl⟩ | ⟨b1, b2⟩
  ·exact h.one i j x y a2 b2 he
  ·exact absurd he (hno x (List.mem_of_getElem? a2))
  ·have := h.one i (j - 1) x y a2 b2 he; omega
  ·exact absurd he.symm (hno y (List.mem_of_getElem? b2))
  ·omega
  ·exact absurd he.symm (hno y (List.mem_of_getElem? b2))
  ·have := h.one (i - 1) j x y a2 b2 he; omega
  ·exact absurd he (hno x (List.mem_of_getElem? a2))
  ·have := h.one (i - 1) (j - 1) x y a2 b2 he; omega
theorem LL {es : List Ent} {s : ByteArray} {n : Int} {e : Ent} : e ∈ JJ es s n ↔ e ∈ es ∨ e = ⟨(Bh es : Int), s, n⟩ := by
 unfold JJ
 rw [List.mem_append, List.mem_cons]
 constructor
 ·rintro (h | rfl | h)
  ·exact .inl (List.mem_of_mem_take h)
  ·exact .inr rfl
  ·exact .inl (List.mem_of_mem_drop h)
 ·rintro (h | rfl)
  ·rw [← List.take_append_drop (Bh es) es, List.mem_append] at h
   rcases h with h | h
   ·exact .inl h
   ·exact .inr (.inr h)
  ·exact .inr (.inl rfl)
theorem Yi (es : List Ent) (s : ByteArray) (n : Int) : (JJ es s n)[Bh es]? = some ⟨(Bh es : Int), s, n⟩ := by
 have h1 := (Cn es).1
 unfold JJ
 rw [List.getElem?_append_right (by rw [List.length_take]; omega), List.length_take, Nat.min_eq_left h1, Nat.sub_self]; rfl
theorem Es (es : List Ent) (s : ByteArray) :
  (∃ e, e ≠ 0 ∧ putS es s = ([], 0, e)) ∨
  (∃ k x, Bx es ∧ es[k]? = some x ∧ x.tx = s ∧ x.n ≠ 8 ∧ putS es s = (GF es k 1, x.id, 0)) ∨
  (Bx es ∧ DX s = true ∧ (∀ e ∈ es, e.tx ≠ s) ∧ es.length < 64 ∧ putS es s = (JJ es s 1, (Bh es : Int), 0)) := by
 by_cases hm : (Az es && DX s) = true
 ·rw [Bool.and_eq_true] at hm
  have h := Cd hm.1
  have hdef : putS es s = (match es[Bj es s]? with
   | some e => if e.n = 8 then ([], 0, 1501) else (GF es (Bj es s) 1, e.id, 0)
   | none => if es.length = 64 then ([], 0, 1501) else (JJ es s 1, (Bh es : Int), 0)) := by
   unfold putS
   rw [hm.1, hm.2, if_neg (by decide)]
   cases es[Bj es s]? <;> rfl
  cases hf : es[Bj es s]? with
  | some e =>
   rw [hf] at hdef
   simp only at hdef
   by_cases h8 : e.n = 8
   ·rw [if_pos h8] at hdef
    exact .inl ⟨1501, by decide, hdef⟩
   ·rw [if_neg h8] at hdef
    exact .inr (.inl ⟨_, e, h, hf, Je hf, h8, hdef⟩)
  | none =>
   rw [hf] at hdef
   simp only at hdef
   by_cases h64 : es.length = 64
   ·rw [if_pos h64] at hdef
    exact .inl ⟨1501, by decide, hdef⟩
   ·rw [if_neg h64] at hdef
    refine .inr (.inr ⟨h, hm.2, fun e he hs => ?_, by have := h.len; omega, hdef⟩)
    obtain ⟨i, hi⟩ := List.mem_iff_getElem?.1 he
    have hge := List.getElem?_eq_none_iff.1 hf
    have hlt := (List.getElem?_eq_some_iff.1 hi).1
    have := Jf (s := s) (k := i) (by omega) hi
    rw [hs, FZ] at this; cases this
 ·refine .inl ⟨1500, by decide, ?_⟩
  unfold putS
  rw [if_pos (by simpa using hm)]
theorem Qi {es : List Ent} (h : Bx es) {k : Nat} {x : Ent} (hx : es[k]? = some x) (hn : x.n ≠ 0) : DP es x.id = (GF es k (-1), 0) := by
 unfold DP
 rw [EV h, if_neg (by decide), SI h hx, hx]
 simp only
 rw [if_neg hn]
theorem IL {es : List Ent} (h : Bx es) : EE es = (es.filter fun e => decide (e.n ≠ 0), 0) := by
 unfold EE; rw [EV h, if_neg (by decide)]
theorem again (es : List Ent) (s : ByteArray) (h : (putS es s).2.2 = 0) : (DP (putS es s).1 (putS es s).2.1).2 = 0 ∧ (EE (DP (putS es s).1 (putS es s).2.1).1).2 = 0 ∧ (EE es).2 = 0 ∧ (EE (DP (putS es s).1 (putS es s).2.1).1).1 = (EE es).1 := by
 rcases Es es s with ⟨e, he, hp⟩ | ⟨k, x, hs, hx, hxs, h8, hp⟩ | ⟨hs, ht, hno, hl, hp⟩
 ·rw [hp] at h; exact absurd h he
 ·have hn := Ml hs hx
  have hlt := (List.getElem?_eq_some_iff.1 hx).1
  have hb := IQ hs hx (d := 1) (by omega)
  have hd := Qi hb (k := k) (x := ⟨x.id, x.tx, x.n + 1⟩) (by rw [Ec 1 hx, List.getElem?_set_self hlt]) (by simp only; omega)
  rw [hp]
  simp only at hd ⊢
  rw [hd]
  simp only
  rw [WX hx, IL hs]
  exact ⟨by trivial, by trivial, by trivial, by trivial⟩
 ·have hi := Po hs ht (n := 1) (by decide) hno hl
  have hat := Yi es s 1
  have hd := Qi hi hat (by simp)
  have hb := IQ hi hat (d := -1) (by simp only; omega)
  rw [hp]
  simp only at hd ⊢
  rw [hd]
  simp only
  have hbi : GF (JJ es s 1) (Bh es) (-1) = JJ es s 0 := by
   rw [Ec (-1) hat]
   have h1 := (Cn es).1
   unfold JJ
   rw [List.set_append_right _ _ (by rw [List.length_take]; omega), List.length_take, Nat.min_eq_left h1, Nat.sub_self]
   rfl
  rw [IL hb, IL hs, hbi]
  refine ⟨by trivial, by trivial, by trivial, ?_⟩
  unfold JJ
  rw [List.filter_append, List.filter_cons_of_neg (by simp)]
  rw [← List.filter_append, List.take_append_drop]
theorem OW (es : List Ent) (s : ByteArray) (h : (putS es s).2.2 = 0) : Az (putS es s).1 = true ∧ Cl (putS es s).1 (putS es s).2.1 = (s, true) ∧ ∀ o, o ≠ (putS es s).2.1 → Cl (putS es s).1 o = Cl es o := by
 rcases Es es s with ⟨e, he, hp⟩ | ⟨k, x, hs, hx, hxs, h8, hp⟩ | ⟨hs, ht, hno, hl, hp⟩
 ·rw [hp] at h; exact absurd h he
 ·have hn := Ml hs hx
  have hlt := (List.getElem?_eq_some_iff.1 hx).1
  have hb := IQ hs hx (d := 1) (by omega)
  have hg := get_some hb (k := k) (e := ⟨x.id, x.tx, x.n + 1⟩) (by rw [Ec 1 hx, List.getElem?_set_self hlt])
  rw [hp]
  simp only at hg ⊢
  exact ⟨EV hb, by rw [hg, hxs], fun o _ => Ve hs hb (Iy es k 1) o⟩
 ·have hi := Po hs ht (n := 1) (by decide) hno hl
  have hg := get_some hi (Yi es s 1)
  rw [hp]
  simp only at hg ⊢
  refine ⟨EV hi, hg, fun o ho => SQ hs hi (fun e he hid => ⟨e, LL.2 (.inl he), hid, rfl⟩) fun x hx hid => ?_⟩
  rcases LL.1 hx with h1 | rfl
  ·exact ⟨x, h1, hid⟩
  ·exact absurd hid.symm ho
theorem Pu (H : Heap) (cb kb : Nat) (c : Cfg) (rv w v : V) (ws vs : List Int) (r m t h : Int) (hc : H[cb]? = some (.row (BJ c rv) true)) (hk : H[kb]? = some (.row (Yv w v r m t h) true)) (hw : Sl 1 AH H w ws) (hv : Sl 1 AH H v vs) (lw : ws.length ≤ 2 ^ 47) (lv : vs.length ≤ 2 ^ 47) :
  Call Tryz.prog 110 [.ptr cb 0, .ptr kb 0] H (.bool (BI c.i c.h ws vs r m t)) H := by
 refine AJ fit mixed Tryz.func110 rfl rfl rfl (by kernel_rfl) rfl ?_
 have l0 : loadV T 82 H kb 0 = some (.agg (Cb w v r m t)) := by
  refine AZ T82 rfl ?_
  unfold Heap.loadN
  rw [hk]; rfl
 have l1 : loadV T 23 H cb 1 = some (.agg [.int .i64 c.i, .int .i64 c.h]) := by
  refine AZ T23 rfl ?_
  unfold Heap.loadN
  rw [hc]; rfl
 have l2 := AU (q := 0) T27 rfl hk rfl
 have c1 := NJ H w v ws vs r m t hw hv lw lv
 have c2 := Gu H c.i c.h w ws hw lw
 unfold BI
 obtain ⟨r1, e1⟩ : ∃ q, CT ws vs r m t = q := ⟨_, rfl⟩
 rw [e1] at c1 ⊢
 clear e1 hw hv lw lv hc hk
 cases r1
 ·refine goW ?_
  refine AI c1 ?_
  refine goW ?_
  refine Ai ?_; simp [AD, AB, *]
 ·refine goW ?_
  refine AI c1 ?_
  refine goW ?_
  refine AI c2 ?_
  refine goW ?_
  refine Ai ?_; simp [AD, AB, *]
theorem RD (H : Heap) (c : Cfg) (rv w v : V) (ws vs : List Int) (r m t h : Int) (hr : Rows H rv c.rows) (hw : Sl 1 AH H w ws) (hv : Sl 1 AH H v vs) (hc : Al c = true) (hf : BI c.i c.h ws vs r m t = true) :
  Call Tryz.prog 202 [.agg (BJ c rv), .agg (Yv w v r m t h)] H (.tup [.int .i64 (JM c.i.toNat c.h.toNat ws c.rows), .int .i64 0]) H := by
 obtain ⟨hm2, hloss, hseed, _⟩ := AX hc
 obtain ⟨hs, hr1, hr8, hrok⟩ := Ca hloss
 obtain ⟨a, b, ha, hb, ha1, ha3, hb1, hb3⟩ := JW hs
 have hf' := hf
 simp only [BI, Bool.and_eq_true] at hf'
 obtain ⟨hchk, hfi⟩ := hf'
 obtain ⟨hvw, _, hlv, _⟩ := Bo hchk
 have hlw := BP hvw
 have lrow : ∀ r ∈ c.rows, r.1.length ≤ 2 ^ 47 := fun rr hrr => by
  have := hrok rr hrr
  simp only [Dp, Bool.and_eq_true] at this
  have := BP (CC this.1).2
  omega
 have hsz : ws.length = BA a b := by
  rw [ha, hb] at hfi
  simp only [fits, Bool.and_eq_true, beq_iff_eq, decide_eq_true_eq] at hfi
  have hcast := GW a b
  omega
 have hfi2 : fits (a : Int) (b : Int) ws = true := by rw [← ha, ← hb]; exact hfi
 have hlo2 : Ct (a : Int) (b : Int) c.rows = true := by rw [← ha, ← hb]; exact hloss
 refine AQ fit mixed Tryz.func202 rfl rfl rfl (by kernel_rfl) rfl fun hM => ?_
 refine AO (AK ?_)
 refine Ax T26 fun b1 H1 hM => ?_
 refine Ax T84 fun b2 H2 hM => ?_
 have c1 := Dw H2 c rv (hr.mono hM.pre) (by omega) lrow
 rw [hc] at c1
 have c2 := Pu H2 b1 b2 c rv w v ws vs r m t h (hM.row (.there .here)) (hM.row .here) (hw.mono hM.pre) (hv.mono hM.pre) (by omega) (by omega)
 rw [hf] at c2
 have c3 := bB H2 a b w rv ws c.rows (hw.mono hM.pre) (hr.mono hM.pre) hfi2 hlo2 hsz ha3 hb3
 rw [← ha, ← hb] at c3
 have e1 : c.i.toNat = a := by omega
 have e2 : c.h.toNat = b := by omega
 rw [e1, e2]
 clear hm2 hloss hseed hs hr1 hr8 hrok ha hb ha1 ha3 hb1 hb3 hchk hfi hvw hlv hlw lrow hsz hfi2 hlo2 e1 e2 hc hf
 refine goM ?_
 refine AA c1 ?_
 refine goM ?_
 refine AA c2 ?_
 refine goM ?_
 refine AA c3 ?_
 refine goM ?_
 exact An ⟨rfl, hM.pre⟩
theorem NI (H : Heap) (c : Cfg) (rv w v : V) (ws vs : List Int) (r m t h : Int) (hr : Rows H rv c.rows) (hl : c.rows.length ≤ 2 ^ 47) (hxl : ∀ r ∈ c.rows, r.1.length ≤ 2 ^ 47) (hw : Sl 1 AH H w ws) (hv : Sl 1 AH H v vs) (lw : ws.length ≤ 2 ^ 47) (lv : vs.length ≤ 2 ^ 47) (hb : (Al c && BI c.i c.h ws vs r m t) = false) :
  Call Tryz.prog 202 [.agg (BJ c rv), .agg (Yv w v r m t h)] H (.tup [.int .i64 0, .int .i64 2000]) H := by
 refine AQ fit mixed Tryz.func202 rfl rfl rfl (by kernel_rfl) rfl fun hM => ?_
 refine AO (AK ?_)
 refine Ax T26 fun b1 H1 hM => ?_
 refine Ax T84 fun b2 H2 hM => ?_
 have c1 := Dw H2 c rv (hr.mono hM.pre) hl hxl
 have c2 := Pu H2 b1 b2 c rv w v ws vs r m t h (hM.row (.there .here)) (hM.row .here) (hw.mono hM.pre) (hv.mono hM.pre) lw lv
 obtain ⟨q, hq⟩ : ∃ q, Al c = q := ⟨_, rfl⟩
 rw [hq] at c1 hb
 cases q with
 | false =>
  clear hb hq c2
  refine goM ?_
  refine AA c1 ?_
  refine goM ?_
  exact An ⟨rfl, hM.pre⟩
 | true =>
  rw [Bool.true_and] at hb
  rw [hb] at c2
  clear hb hq
  refine goM ?_
  refine AA c1 ?_
  refine goM ?_
  refine AA c2 ?_
  refine goM ?_
  exact An ⟨rfl, hM.pre⟩
def By (c : Cfg) (k : Chk) : Int × Int := if (Al c && BW c k) = true then (JM c.i.toNat c.h.toNat k.ws c.rows, 0) else (0, 2000)
def Cx (c : Cfg) (id : Int) : Bool := Al c && within id 0 (IntKind.i64.wrap (c.m - 1))
def Bq (c : Cfg) (id : Int) : Chk := if Cx c id = true then CQ c id else FP
def HE (c : Cfg) (id : Int) : List Int := if Cx c id = true then KO c id else []
def HD (c : Cfg) (id : Int) : Int := if Cx c id = true then 0 else 2000
theorem He {c : Cfg} {id : Int} (h : Cx c id = true) : Al c = true ∧ (0 ≤ id ∧ id < c.m) := by
 unfold Cx at h
 rw [Bool.and_eq_true] at h
 obtain ⟨hm, _⟩ := AX h.1
 rw [Ip hm, within_iff] at h
 exact ⟨h.1, by omega⟩
theorem LO (H : Heap) (c : Cfg) (rv : V) (id : Int) (hr : Rows H rv c.rows) (hc : c.Fit) :
  ∃ w H', Call Tryz.prog 98 [.agg (BJ c rv), .int .i64 id] H w H' ∧ ∃ a b, w = .tup [.agg (mC a b (Bq c id) 0), .str (strOf (HE c id)), .int .i64 (HD c id)] ∧ Mem H H' [.own 1 AH b (Bq c id).vs, .own 1 AH a (Bq c id).ws] := by
 have l1 := hc.rows
 have l2 := hc.row
 unfold Bq HE HD
 cases hok : Cx c id with
 | false => exact ⟨_, H, NH H c rv id hr (by omega) (fun r h => by have := l2 r h; omega) hok, .AN, .AN, rfl, ((Mem.start H).nil 1 AH).nil 1 AH⟩
 | true =>
  obtain ⟨h1, h2⟩ := He hok
  exact RC H c rv id hr h1 h2
theorem RE (H : Heap) (c : Cfg) (rv w v : V) (k : Chk) (h : Int) (hr : Rows H rv c.rows) (hk : KAt H w v k) (hc : c.Fit) (hf : k.Fit) :
  Call Tryz.prog 202 [.agg (BJ c rv), .agg (mC w v k h)] H (.tup [.int .i64 (By c k).1, .int .i64 (By c k).2]) H := by
 have l1 := hc.rows
 have l2 := hc.row
 have l3 := hf.ws
 have l4 := hf.vs
 unfold By
 cases hok : (Al c && BW c k) with
 | false => exact NI H c rv w v k.ws k.vs k.r k.m k.t h hr (by omega) (fun r h => by have := l2 r h; omega) hk.ws hk.vs (by omega) (by omega) hok
 | true =>
  rw [Bool.and_eq_true] at hok
  exact RD H c rv w v k.ws k.vs k.r k.m k.t h hr hk.ws hk.vs hok.1 hok.2
def Chk.more (k : Chk) : Chk := { k with ws := k.ws ++ [1], vs := k.vs ++ [1] }
theorem Jh {c : Cfg} {k : Chk} (h : BW c k = true) : k.vs.length = k.ws.length ∧ 1 ≤ k.ws.length ∧ (k.ws.length : Int) = c.h * (c.i + 1) + c.h + 1 := by
 unfold BW BI at h
 rw [Bool.and_eq_true] at h
 obtain ⟨_, _, l, l1, _⟩ := Bo h.1
 obtain ⟨_, _, i', h', hi', hh', _, _, _, _, hsz⟩ := Ej h.2
 refine ⟨l, l1, ?_⟩
 rw [hsz, hi', hh', ← GW]
theorem Yz {c : Cfg} {k : Chk} (h : BW c k = true) : k.more.Fit ∧ k.ws.length ≤ 16 ∧ k.vs.length ≤ 16 := by
 unfold BW BI at h
 rw [Bool.and_eq_true] at h
 obtain ⟨a, b, l, _⟩ := Bo h.1
 have := BP a
 have := BP b
 exact ⟨⟨by simp only [Chk.more, List.length_append, List.length_cons, List.length_nil]; omega, by simp only [Chk.more, List.length_append, List.length_cons, List.length_nil]; omega⟩, by omega, by omega⟩
structure Ev where
 kind : Int
 member : Int
 BV : Int
 at_ : Int
 rate : Int
 mom : Int
 deriving DecidableEq, Inhabited
def Ev.cells (e : Ev) : List V := [.int .i64 e.kind, .int .i64 e.member, .int .i64 e.BV, .int .i64 e.at_, .int .i64 e.rate, .int .i64 e.mom]
def evC (cs : List V) (e : Ev) : Prop := cs = [.int .i64 e.kind, .int .i64 e.member, .int .i64 e.BV, .int .i64 e.at_, .int .i64 e.rate, .int .i64 e.mom]
def BD (es : List Ev) (m : Int) : Nat := (es.filter fun e => e.member == m).length
theorem Fi {es : List Ev} {m : Int} {k : Nat} {e : Ev} (he : es[k]? = some e) : BD (es.take (k + 1)) m = BD (es.take k) m + if e.member = m then 1 else 0 := by
 unfold BD
 rw [List.take_add_one, he, List.filter_append, List.length_append]
 simp only [Option.toList_some, List.filter_cons, List.filter_nil]
 by_cases h : e.member = m <;> simp [h]
theorem Ji (es : List Ev) (m : Int) : BD es m ≤ es.length := List.length_filter_le ..
theorem fW (a b : Ev) : (a.kind == b.kind && (a.member == b.member && (a.BV == b.BV && (a.at_ == b.at_ && (a.rate == b.rate && (a.mom == b.mom && true)))))) = decide (a = b) := by
 obtain ⟨_, _, _, _, _, _⟩ := a
 obtain ⟨_, _, _, _, _, _⟩ := b
 apply Bool.eq_iff_iff.2
 simp [Ev.mk.injEq]
theorem Ri {α : Type} {xs ys : List α} {k : Nat} {x y : α} (h : xs.take k = ys.take k) (hx : xs[k]? = some x) (hy : ys[k]? = some y) (e : x = y) : xs.take (k + 1) = ys.take (k + 1) := by
 rw [List.take_add_one, List.take_add_one, h, hx, hy, e]
def explored (es : List Ev) (m : Int) : Bool :=
 match es.reverse.find? fun e => e.member == m with
 | some e => e.kind == 1
 | none => false
theorem Jy {es : List Ev} {m : Int} {k : Nat} {e : Ev} (he : es[k]? = some e) : explored (es.take (k + 1)) m = if e.member = m then e.kind == 1 else explored (es.take k) m := by
 unfold explored
 rw [List.take_add_one, he]
 simp only [Option.toList_some, List.reverse_append, List.reverse_cons, List.reverse_nil, List.nil_append, List.cons_append, List.find?_cons]
 by_cases h : e.member = m
 ·simp [h]
 ·rw [if_neg h]
  have : (e.member == m) = false := by simpa using h
  rw [this]
def Dy (es : List Ev) (n : Int) (e : Ev) : Bool :=
 within e.member 0 (n - 1) &&
 (if e.kind = 0 then e.BV == 0 && e.at_ == 0 && (e.rate == 0 && e.mom == 0)
  else if e.kind = 1 then within e.BV 0 (n - 1) && e.BV != e.member && e.at_ == (BD es e.BV : Int) && (e.rate == 0 && e.mom == 0)
  else if e.kind = 2 then e.BV == 0 && e.at_ == 0 && BK e.rate e.mom && explored es e.member
  else false)
def Ap (es : List Ev) (n : Int) : Bool :=
 within n 1 8 && decide (es.length ≤ 1024) && (List.range es.length).all fun k => match es[k]? with | some e => Dy (es.take k) n e | none => true
theorem Qm {es : List Ev} {n : Int} {k : Nat} {e : Ev} (he : es[k]? = some e) (h : Dy (es.take k) n e = false) : Ap es n = false := by
 have hk : k < es.length := (List.getElem?_eq_some_iff.1 he).1
 unfold Ap
 rw [Bool.and_eq_false_iff]
 right
 rw [List.all_eq_false]
 exact ⟨k, by simp [hk], by simp [he, h]⟩
theorem EP {es : List Ev} {n : Int} (hn : within n 1 8 = true) (hl : es.length ≤ 1024) (h : ∀ (k : Nat) e, es[k]? = some e → Dy (es.take k) n e = true) : Ap es n = true := by
 unfold Ap
 simp only [hn, hl, decide_true, Bool.true_and, List.all_eq_true, List.mem_range]
 intro k hk
 have : es[k]? = some es[k] := by simp [hk]
 rw [this]
 exact h k _ this
theorem all_succ {es : List Ev} {p : Nat → Ev → Prop} {k : Nat} {e0 : Ev} (hall : ∀ (j : Nat) e, j < k → es[j]? = some e → p j e) (he : es[k]? = some e0) (h : p k e0) : ∀ (j : Nat) e, j < k + 1 → es[j]? = some e → p j e := fun j e hj hje => by
 by_cases hjk : j = k
 ·subst hjk; rw [he] at hje; cases hje; exact h
 ·exact hall j e (by omega) hje
theorem LR {es : List Ev} {n : Int} {k : Nat} {e : Ev} {H h' : Heap} {v' : V} (he : es[k]? = some e) (e1 : v' = .bool false) (e2 : Dy (es.take k) n e = false) (e3 : H <+: h') : v' = .bool (Ap es n) ∧ H <+: h' := ⟨by rw [e1, Qm he e2], e3⟩
theorem VZ {es : List Ev} {n : Int} {e : Ev} (h : e.kind = 0) : Dy es n e = (within e.member 0 (n - 1) && (e.BV == 0 && e.at_ == 0 && (e.rate == 0 && e.mom == 0))) := by simp [Dy, h]
theorem Qj {es : List Ev} {n : Int} {e : Ev} (h : e.kind = 1) : Dy es n e = (within e.member 0 (n - 1) && (within e.BV 0 (n - 1) && e.BV != e.member && e.at_ == (BD es e.BV : Int) && (e.rate == 0 && e.mom == 0))) := by simp [Dy, h]
theorem Qk {es : List Ev} {n : Int} {e : Ev} (h : e.kind = 2) : Dy es n e = (within e.member 0 (n - 1) && (e.BV == 0 && e.at_ == 0 && BK e.rate e.mom && explored es e.member)) := by simp [Dy, h]
theorem Va {es : List Ev} {n : Int} {e : Ev} (h0 : e.kind ≠ 0) (h1 : e.kind ≠ 1) (h2 : e.kind ≠ 2) : Dy es n e = false := by simp [Dy, h0, h1, h2]
def Gm (es : List Ev) (m : Int) : Int :=
 match es.reverse.find? fun e => e.member == m with
 | some e => e.kind
 | none => 0
theorem PS (es : List Ev) (e : Ev) (m : Int) : Gm (es ++ [e]) m = if e.member = m then e.kind else Gm es m := by
 unfold Gm
 simp only [List.reverse_append, List.reverse_cons, List.reverse_nil, List.nil_append, List.cons_append, List.find?_cons]
 by_cases h : e.member = m
 ·simp [h]
 ·rw [if_neg h]
  have : (e.member == m) = false := by simpa using h
  rw [this]
theorem Sn (es : List Ev) (e : Ev) (m : Int) : BD (es ++ [e]) m = BD es m + if e.member = m then 1 else 0 := by
 unfold BD
 rw [List.filter_append, List.length_append]
 by_cases h : e.member = m <;> simp [h]
theorem PN (es : List Ev) (m : Int) : explored es m = (decide ((BD es m : Int) > 0) && Gm es m == 1) := by
 unfold explored Gm BD
 cases h : es.reverse.find? fun e => e.member == m with
 | none => simp
 | some e =>
  have h1 := List.find?_some h
  have h2 := List.mem_of_find?_eq_some h
  have : 0 < (es.filter fun e => e.member == m).length := by
   apply List.length_pos_iff_exists_mem.2
   exact ⟨e, by simp [List.mem_filter]; exact ⟨by simpa using h2, by simpa using h1⟩⟩
  simp only [this, decide_true, Bool.true_and, Int.natCast_pos, gt_iff_lt]
structure St where
 c : Cfg
 ms : List (Chk × Int)
 es : List Ev
 st : List Ent
def Vu : Cfg := ⟨0, 0, 0, [], 0, 0, 0, 0, false⟩
def DN : St := ⟨Vu, [], [], []⟩
def BB (k : Chk) : ByteArray := strOf (MP k.ws k.vs k.r k.m k.t)
def BQ (ms : List (Chk × Int)) (id : Int) : Nat := (ms.filter fun m => decide (m.2 = id)).length
def FO (c : Cfg) (m : Chk × Int) : Bool := BW c m.1 && decide (m.1.t ≤ c.total)
def FW (st : List Ent) (m : Chk × Int) : Bool := (Cl st m.2).2 && EF (Cl st m.2).1 (BB m.1)
def Dn (ms : List (Chk × Int)) (e : Ent) : Bool := decide (e.n = (BQ ms e.id : Int))
def HJ (s : St) : Bool := s.ms.all (FW s.st) && s.st.all (Dn s.ms)
def BZ (s : St) : Bool := Al s.c && decide ((s.ms.length : Int) = s.c.m) && s.ms.all (FO s.c) && Ap s.es s.c.m && Az s.st && HJ s
def FI (s : St) : List Int := s.ms.map fun m => (By s.c m.1).1
def newF (c : Cfg) : Nat → List (Chk × Int) × List Ent
 | 0 => ([], [])
 | i + 1 => ((newF c i).1 ++ [(CQ c (i : Int), (putS (newF c i).2 (BB (CQ c (i : Int)))).2.1)], (putS (newF c i).2 (BB (CQ c (i : Int)))).1)
def FX (c : Cfg) : St := ⟨c, (newF c c.m.toNat).1, [], (newF c c.m.toNat).2⟩
def Gy (c : Cfg) : St × Int := if Al c = true then (FX c, 0) else (DN, 2200)
theorem Tk {c : Cfg} {k : Chk} (h : BW c k = true) : DX (BB k) = true := by
 have h2 := Jh h
 have hl : k.ws.length ≤ 16 := by
  have := (Yz h).2.1
  exact this
 have hs : (BB k).size = 10 + 8 * k.ws.length := by
  unfold BB
  rw [DW]
  unfold MP
  simp only [List.length_append, CD, DJ, h2.1]
  omega
 unfold DX
 rw [hs, decide_eq_true (by omega), decide_eq_true (by omega)]; rfl
theorem IX (ms : List (Chk × Int)) (m : Chk × Int) (id : Int) : BQ (ms ++ [m]) id = BQ ms id + if m.2 = id then 1 else 0 := by
 unfold BQ
 rw [List.filter_append, List.length_append]
 by_cases h : m.2 = id
 ·simp [h]
 ·simp [h]
theorem KH (ms : List (Chk × Int)) (id : Int) : BQ ms id ≤ ms.length := List.length_filter_le ..
theorem IW {ms : List (Chk × Int)} {id : Int} (h : ∀ m ∈ ms, m.2 ≠ id) : BQ ms id = 0 := by
 unfold BQ
 rw [List.length_eq_zero_iff, List.filter_eq_nil_iff]
 intro m hm
 simpa using h m hm
structure fN (c : Cfg) (i : Nat) (ms : List (Chk × Int)) (st : List Ent) : Prop where
 len : ms.length = i
 mem : ∀ (j : Nat) m, ms[j]? = some m → m.1 = CQ c (j : Int)
 store : Bx st
 head : ∀ m ∈ ms, Cl st m.2 = (BB m.1, true)
 held : ∀ e ∈ st, e.n = (BQ ms e.id : Int)
 stl : st.length ≤ i
theorem Hz {st : List Ent} {id : Int} {t : ByteArray} (h : Cl st id = (t, true)) : ∃ e ∈ st, e.id = id ∧ e.tx = t := by
 unfold Cl at h
 split at h
 ·cases h
 ·cases hf : st[DD st id]? with
  | none => rw [hf] at h; cases h
  | some e =>
   rw [hf] at h
   cases h
   have hlt := (List.getElem?_eq_some_iff.1 hf).1
   have := List.findIdx_getElem (xs := st) (p := fun e : Ent => decide (e.id = id)) (w := hlt)
   have hel : st[DD st id] = e := by rw [List.getElem?_eq_getElem hlt] at hf; exact Option.some.inj hf
   exact ⟨e, List.mem_of_getElem? hf, by rw [← hel]; exact of_decide_eq_true this, rfl⟩
theorem Te : Bx [] := ⟨by decide, fun e h => (by cases h), fun i j x y _ h => (by cases h), fun i j x y h => (by cases h)⟩
theorem ML {c : Cfg} (hc : Al c = true) : ∀ i : Nat, i ≤ 8 → fN c i (newF c i).1 (newF c i).2 ∧ (∀ j, j < i → (putS (newF c j).2 (BB (CQ c (j : Int)))).2.2 = 0)
 | 0, _ => ⟨⟨rfl, fun j m h => (by cases h), Te, fun m h => (by cases h), fun e h => (by cases h), Nat.le_refl _⟩, fun j h => by omega⟩
 | i + 1, hi => by
  obtain ⟨⟨h1, h2, h3, h4, h5, h6⟩, h7⟩ := ML hc i (by omega)
  have ht := Tk (Ff hc (i : Int))
  have hcount : ∀ id, BQ (newF c i).1 id ≤ i := fun id => by have := KH (newF c i).1 id; omega
  simp only [newF]
  generalize hms : (newF c i).1 = ms at *
  generalize hst : (newF c i).2 = st at *
  obtain ⟨t, htt⟩ : ∃ t, BB (CQ c (i : Int)) = t := ⟨_, rfl⟩
  rw [htt] at ht ⊢
  have hok : (putS st t).2.2 = 0 := by
   rcases Es st t with ⟨e, he, hp⟩ | ⟨k, x, hs, hx, hxs, h8, hp⟩ | ⟨hs, _, hno, hl, hp⟩
   ·exfalso
    unfold putS at hp
    rw [EV h3, ht, if_neg (by decide)] at hp
    cases hf : st[Bj st t]? with
    | some e =>
     rw [hf] at hp
     simp only at hp
     have hm := List.mem_of_getElem? hf
     have hn := h5 e hm
     have := hcount e.id
     rw [if_neg (by omega)] at hp
     simp only [Prod.mk.injEq] at hp
     exact he hp.2.2.symm
    | none =>
     rw [hf] at hp
     simp only at hp
     rw [if_neg (by omega)] at hp
     simp only [Prod.mk.injEq] at hp
     exact he hp.2.2.symm
   ·rw [hp]
   ·rw [hp]
  obtain ⟨l1, l2, l3⟩ := OW st t hok
  have hmem : ∀ (j : Nat) m, (ms ++ [(CQ c (i : Int), (putS st t).2.1)])[j]? = some m → m.1 = CQ c (j : Int) := fun j m hm => by
   by_cases hj : j < i
   ·rw [List.getElem?_append_left (by omega)] at hm
    exact h2 j m hm
   ·rw [List.getElem?_append_right (by omega)] at hm
    match hq : j - ms.length, hm with
    | 0, hm =>
     simp at hm
     subst hm
     show CQ c (i : Int) = _
     rw [show j = i by omega]
    | q + 1, hm => simp at hm
  have hhead : ∀ m ∈ ms ++ [(CQ c (i : Int), (putS st t).2.1)], Cl (putS st t).1 m.2 = (BB m.1, true) := fun m hm => by
   rw [List.mem_append, List.mem_singleton] at hm
   rcases hm with hm | rfl
   ·by_cases hid : m.2 = (putS st t).2.1
    ·obtain ⟨e, he, hei, hex⟩ := Hz (h4 m hm)
     rw [hid, l2]
     congr 1
     -- the number is that of a text that was there
     rcases Es st t with ⟨e, he, hp⟩ | ⟨k, x, hs, hx, hxs, h8, hp⟩ | ⟨hs, _, hno, hl, hp⟩
     ·rw [hp] at hok; exact absurd hok he
     ·rw [hp] at hid
      simp only at hid
      obtain ⟨q, hq⟩ := List.mem_iff_getElem?.1 he
      rcases Nat.lt_trichotomy q k with h | h | h
      ·have := h3.up q k e x h hq hx; omega
      ·subst h; rw [hx] at hq; cases hq; rw [← hxs, hex]
      ·have := h3.up k q x e h hx hq; omega
     ·rw [hp] at hid
      simp only at hid
      obtain ⟨q, hq⟩ := List.mem_iff_getElem?.1 he
      have hsp := Cn st
      rcases Nat.lt_or_ge q (Bh st) with h | h
      ·have := hsp.2.1 q e h hq; omega
      ·have := Gk h3 h hq; omega
    ·rw [l3 m.2 hid]; exact h4 m hm
   ·show Cl (putS st t).1 (putS st t).2.1 = (BB (CQ c (i : Int)), true)
    rw [l2, htt]
  have hlen : (ms ++ [(CQ c (i : Int), (putS st t).2.1)]).length = i + 1 := by simp [h1]
  refine ⟨⟨hlen, hmem, Cd l1, hhead, fun e he => ?_, ?_⟩, fun j hj => ?_⟩
  ·rw [IX]
   simp only
   rcases Es st t with ⟨e', he', hp⟩ | ⟨k, x, hs, hx, hxs, h8, hp⟩ | ⟨hs, _, hno, hl, hp⟩
   ·rw [hp] at hok; exact absurd hok he'
   ·rw [hp] at he ⊢
    simp only at he ⊢
    rw [Ec 1 hx] at he
    have hlt := (List.getElem?_eq_some_iff.1 hx).1
    obtain ⟨q, hq⟩ := List.mem_iff_getElem?.1 he
    by_cases hqk : k = q
    ·subst hqk
     rw [List.getElem?_set_self hlt] at hq
     cases hq
     have := h5 x (List.mem_of_getElem? hx)
     simp only [if_true]
     rw [this]; omega
    ·rw [List.getElem?_set_ne hqk] at hq
     have := h5 e (List.mem_of_getElem? hq)
     rw [if_neg (fun h => ?_), this]
     ·omega
     ·rcases Nat.lt_or_ge k q with h' | h'
      ·have := h3.up k q x e h' hx hq; omega
      ·have := h3.up q k e x (by omega) hq hx; omega
   ·rw [hp] at he ⊢
    simp only at he ⊢
    rcases LL.1 he with he | rfl
    ·have hne : ¬ (Bh st : Int) = e.id := fun h => by
      obtain ⟨q, hq⟩ := List.mem_iff_getElem?.1 he
      have hsp := Cn st
      rcases Nat.lt_or_ge q (Bh st) with h' | h'
      ·have := hsp.2.1 q e h' hq; omega
      ·have := Gk h3 h' hq; omega
     rw [if_neg hne, h5 e he]; omega
    ·simp only
     rw [if_pos trivial, IW fun m hm hid => ?_]
     ·rfl
     ·obtain ⟨e, he, hei, _⟩ := Hz (h4 m hm)
      obtain ⟨q, hq⟩ := List.mem_iff_getElem?.1 he
      have hsp := Cn st
      rcases Nat.lt_or_ge q (Bh st) with h' | h'
      ·have := hsp.2.1 q e h' hq; omega
      ·have := Gk h3 h' hq; omega
  ·rcases Es st t with ⟨e', he', hp⟩ | ⟨k, x, hs, hx, hxs, h8, hp⟩ | ⟨hs, _, hno, hl, hp⟩
   ·rw [hp]; simp
   ·rw [hp]; simp only; rw [Ni]; omega
   ·rw [hp]
    simp only
    unfold JJ
    rw [List.length_append, List.length_take, List.length_cons, List.length_drop]
    have := (Cn st).1
    omega
  ·by_cases hji : j = i
   ·subst hji
    rw [hst, htt]; exact hok
   ·exact h7 j (by omega)
theorem OO {c : Cfg} (hc : Al c = true) : BZ (FX c) = true := by
 obtain ⟨hm2, _, _, htot, _⟩ := AX hc
 obtain ⟨⟨h1, h2, h3, h4, h5, h6⟩, _⟩ := ML hc c.m.toNat (by omega)
 have hmm : ∀ m ∈ (newF c c.m.toNat).1, ∃ j : Nat, m.1 = CQ c (j : Int) := fun m hm => by
  obtain ⟨j, hj⟩ := List.mem_iff_getElem?.1 hm
  exact ⟨j, h2 j m hj⟩
 unfold BZ HJ FX
 simp only [Bool.and_eq_true, decide_eq_true_eq, List.all_eq_true]
 refine ⟨⟨⟨⟨⟨hc, by rw [h1]; omega⟩, fun m hm => ?_⟩, ?_⟩, EV h3⟩, fun m hm => ?_, fun e he => ?_⟩
 ·obtain ⟨j, hj⟩ := hmm m hm
  unfold FO
  rw [hj, Ff hc, Bool.true_and]
  exact decide_eq_true (by show (0 : Int) ≤ _; omega)
 ·exact EP (within_iff.2 ⟨by omega, hm2.2⟩) (by simp) fun k e he => by simp at he
 ·unfold FW
  rw [h4 m hm]
  simp [FZ]
 ·unfold Dn
  exact decide_eq_true (h5 e he)
end Go.Proofs.YtncjbjlmgnjhiaaGreat.VM
namespace Go.Proofs.YtncjbjlmgnjhiaaGreat.VM
open Go
set_option linter.unusedVariables false
set_option linter.unusedSimpArgs false
def insPos (f : Nat → Int) (x : Nat) (row : List Nat) : Nat → Nat
 | 0 => 0
 | k + 1 => if f (row.getD k 0) > f x then insPos f x row k else k + 1
def mid (row : List Nat) (k x : Nat) (rest : List Nat) : List Nat := row.take k ++ x :: (row.drop k ++ rest)
def PR (f : Nat → Int) (x : Nat) (row : List Nat) : List Nat := mid row (insPos f x row row.length) x []
def Cf (f : Nat → Int) : Nat → List Nat
 | 0 => []
 | i + 1 => PR f i (Cf f i)
theorem MF (f : Nat → Int) (x : Nat) (row : List Nat) : ∀ k, insPos f x row k ≤ k
 | 0 => Nat.le_refl _
 | k + 1 => by
  unfold insPos
  split
  ·exact Nat.le_succ_of_le (MF f x row k)
  ·exact Nat.le_refl _
theorem NP {row : List Nat} {k : Nat} (x : Nat) (rest : List Nat) (hk : k ≤ row.length) : (mid row k x rest).length = row.length + 1 + rest.length := by
 simp only [mid, List.length_append, List.length_take, List.length_cons, List.length_drop]; omega
theorem eL {row : List Nat} {k : Nat} (x : Nat) (rest : List Nat) (hk : k ≤ row.length) : (mid row k x rest)[k]? = some x := by
 unfold mid
 rw [List.getElem?_append_right (by rw [List.length_take]; omega), List.length_take, Nat.min_eq_left hk, Nat.sub_self]; rfl
theorem Vq {row : List Nat} {k j : Nat} (x : Nat) (rest : List Nat) (hj : j < k) (hk : k ≤ row.length) : (mid row k x rest)[j]? = some (row.getD j 0) := by
 unfold mid
 rw [List.getElem?_append_left (by rw [List.length_take]; omega), List.getElem?_take, if_pos hj, List.getD_eq_getElem?_getD, List.getElem?_eq_getElem (by omega)]; rfl
theorem mid_end (row : List Nat) (x : Nat) (rest : List Nat) : mid row row.length x rest = row ++ x :: rest := by simp [mid]
theorem Yx (row : List Nat) (k x : Nat) (rest : List Nat) : mid row k x rest = mid row k x [] ++ rest := by simp [mid]
theorem Hj {α : Type} (a : List α) (y z : α) (b : List α) : (a ++ y :: b).set a.length z = a ++ z :: b := by
 rw [List.set_append_right _ _ (Nat.le_refl _), Nat.sub_self]; rfl
theorem Pv {row : List Nat} {k : Nat} (hk : k < row.length) : row.take (k + 1) = row.take k ++ [row.getD k 0] ∧ row.drop k = row.getD k 0 :: row.drop (k + 1) := by
 have hg : row.getD k 0 = row[k] := by rw [List.getD_eq_getElem?_getD, List.getElem?_eq_getElem hk]; rfl
 rw [hg]
 exact ⟨by rw [List.take_add_one, List.getElem?_eq_getElem hk]; rfl, List.drop_eq_getElem_cons hk⟩
theorem Yy {row : List Nat} {k : Nat} (x : Nat) (rest : List Nat) (hk : k < row.length) : ((mid row (k + 1) x rest).set (k + 1) (row.getD k 0)).set k x = mid row k x rest := by
 obtain ⟨h1, h2⟩ := Pv hk
 have hl : (row.take k).length = k := by rw [List.length_take]; omega
 have e1 : mid row (k + 1) x rest = row.take k ++ row.getD k 0 :: x :: (row.drop (k + 1) ++ rest) := by
  unfold mid; rw [h1]; simp
 have e2 : mid row k x rest = row.take k ++ x :: row.getD k 0 :: (row.drop (k + 1) ++ rest) := by
  unfold mid; rw [h2]; simp
 rw [e1, e2]
 have s1 : (row.take k ++ row.getD k 0 :: x :: (row.drop (k + 1) ++ rest)).set (k + 1) (row.getD k 0) = row.take k ++ row.getD k 0 :: row.getD k 0 :: (row.drop (k + 1) ++ rest) := by
  rw [List.set_append_right _ _ (by omega), hl]
  have : k + 1 - k = 1 := by omega
  rw [this]; rfl
 rw [s1]
 have := Hj (row.take k) (row.getD k 0) x (row.getD k 0 :: (row.drop (k + 1) ++ rest))
 rw [hl] at this
 exact this
theorem GS (f : Nat → Int) : ∀ i, (Cf f i).length = i
 | 0 => rfl
 | i + 1 => by
  unfold Cf PR
  have := GS f i
  rw [NP _ _ (by exact MF _ _ _ _), this]; rfl
theorem Mp {f : Nat → Int} {x : Nat} {row : List Nat} {k : Nat} (h : f (row.getD k 0) > f x) : insPos f x row (k + 1) = insPos f x row k := by
 rw [insPos, if_pos h]
theorem Mo {f : Nat → Int} {x : Nat} {row : List Nat} {k : Nat} (h : k = 0 ∨ ¬ f (row.getD (k - 1) 0) > f x) : insPos f x row k = k := by
 cases k with
 | zero => rfl
 | succ k =>
  rw [insPos, if_neg]
  rcases h with h | h
  ·cases h
  ·simpa using h
def before (f : Nat → Int) (a b : Nat) : Prop := f a < f b ∨ (f a = f b ∧ a < b)
theorem LI {f : Nat → Int} {x : Nat} {row : List Nat} : ∀ k, ∀ j, insPos f x row k ≤ j → j < k → f (row.getD j 0) > f x
 | 0, j, _, h => by omega
 | k + 1, j, h1, h2 => by
  unfold insPos at h1
  split at h1
  ·rename_i hg
   by_cases hj : j = k
   ·subst hj; exact hg
   ·exact LI k j h1 (by omega)
  ·omega
theorem LJ {f : Nat → Int} {x : Nat} {row : List Nat} : ∀ k, 0 < insPos f x row k → ¬ f (row.getD (insPos f x row k - 1) 0) > f x
 | 0, h => by simp [insPos] at h
 | k + 1, h => by
  unfold insPos at h ⊢
  split
  ·rename_i hg
   rw [if_pos hg] at h
   exact LJ k h
  ·rename_i hg
   simpa using hg
theorem Ws (f : Nat → Int) (x : Nat) (row : List Nat) : (PR f x row).Perm (x :: row) := by
 unfold PR mid
 rw [List.append_nil]
 refine List.perm_middle.trans ?_
 rw [List.take_append_drop]
theorem SY {f : Nat → Int} {x : Nat} {row : List Nat} (hs : row.Pairwise (before f)) (hx : ∀ y ∈ row, y < x) : (PR f x row).Pairwise (before f) := by
 have hle := MF f x row row.length
 have hab := LI (f := f) (x := x) (row := row) row.length
 have hbe := LJ (f := f) (x := x) (row := row) row.length
 unfold PR mid
 generalize insPos f x row row.length = p at *
 rw [List.append_nil]
 have hsplit : row.take p ++ row.drop p = row := List.take_append_drop p row
 have hs' := hs
 rw [← hsplit] at hs'
 obtain ⟨s1, s2, s3⟩ := List.pairwise_append.1 hs'
 have hlow : ∀ a ∈ row.take p, before f a x := fun a ha => by
  have hax := hx a (List.mem_of_mem_take ha)
  obtain ⟨j, hj⟩ := List.mem_iff_getElem?.1 ha
  rw [List.getElem?_take] at hj
  split at hj
  ·rename_i hjp
   have hb := hbe (by omega)
   have hga : row.getD j 0 = a := by rw [List.getD_eq_getElem?_getD, hj]; rfl
   have hle2 : f a ≤ f (row.getD (p - 1) 0) := by
    by_cases he : j = p - 1
    ·rw [← hga, he]; exact Int.le_refl _
    ·have hlt : j < p - 1 := by omega
     have hq : row[p - 1]? = some (row.getD (p - 1) 0) := by rw [List.getD_eq_getElem?_getD, List.getElem?_eq_getElem (by omega)]; rfl
     have hlj : j < row.length := (List.getElem?_eq_some_iff.1 hj).1
     have hlp : p - 1 < row.length := by omega
     have := List.pairwise_iff_getElem.1 hs j (p - 1) hlj hlp hlt
     have e1 : row[j] = a := (List.getElem?_eq_some_iff.1 hj).2
     have e2 : row[p - 1] = row.getD (p - 1) 0 := (List.getElem?_eq_some_iff.1 hq).2
     rw [e1, e2] at this
     unfold before at this; omega
   unfold before; omega
  ·cases hj
 have hhigh : ∀ b ∈ row.drop p, before f x b := fun b hb => by
  obtain ⟨j, hj⟩ := List.mem_iff_getElem?.1 hb
  rw [List.getElem?_drop] at hj
  have hgb : row.getD (p + j) 0 = b := by rw [List.getD_eq_getElem?_getD, hj]; rfl
  have := hab (p + j) (by omega) (List.getElem?_eq_some_iff.1 hj).1
  rw [hgb] at this
  unfold before; omega
 refine List.pairwise_append.2 ⟨s1, List.pairwise_cons.2 ⟨hhigh, s2⟩, fun a ha b hb => ?_⟩
 rcases List.mem_cons.1 hb with rfl | hb
 ·exact hlow a ha
 ·exact s3 a ha b hb
theorem IH (f : Nat → Int) : ∀ (i x : Nat), x ∈ Cf f i ↔ x < i
 | 0, x => by simp [Cf]
 | i + 1, x => by
  unfold Cf
  rw [(Ws f i (Cf f i)).mem_iff, List.mem_cons, IH f i x]; omega
theorem LW (f : Nat → Int) : ∀ i, (Cf f i).Pairwise (before f)
 | 0 => .nil
 | i + 1 => SY (LW f i) fun y hy => (IH f i y).1 hy
theorem Tv (f : Nat → Int) (a : Nat) : ¬ before f a a := by unfold before; omega
end Go.Proofs.YtncjbjlmgnjhiaaGreat.VM
namespace Go.Proofs.YtncjbjlmgnjhiaaGreat.VM
open Go
set_option linter.unusedVariables false
set_option linter.unusedSimpArgs false
attribute [local irreducible] wq wqL wqD wqE wqO Th Bk EndR
set_option maxHeartbeats 8000000
def Fk (cs : List V) (k : Nat) : Prop := cs = [.int .i64 (k : Int)]
def Ak (ss : List Int) (k : Nat) : Int := ss.getD k 0
def TH (a b : Int) : Int := if a < b then -1 else if a > b then 1 else 0
theorem XO (a b : Int) : decide (TH a b < 0) = decide (a < b) := by
 unfold TH
 split
 ·rename_i h; simp [h]
 ·rename_i h
  split <;> simp [h]
theorem SP {xs : List Int} {k : Nat} (h : k < xs.length) : xs[k]? = some (xs.getD k 0) := by simp [List.getD_eq_getElem?_getD, h]
theorem WC (H : Heap) (x : Int) : Call Tryz.prog 237 [.int .i64 x] H (.bool false) H := by
 refine AQ fit mixed Tryz.func237 rfl rfl rfl (by kernel_rfl) rfl fun hM => ?_
 refine goM ?_
 exact AY ⟨rfl, hM.pre⟩
theorem XP (H : Heap) (a b : Int) : Call Tryz.prog 226 [.int .i64 a, .int .i64 b] H (.int .i64 (TH a b)) H := by
 refine AQ fit mixed Tryz.func226 rfl rfl rfl (by kernel_rfl) rfl fun hM => ?_
 have c1 := WC H a
 have c2 := WC H b
 refine goM ?_
 refine AA c1 ?_
 refine goM ?_
 refine AA c2 ?_
 unfold TH
 by_cases h1 : a < b
 ·have d1 : decide (a < b) = true := decide_eq_true h1
  rw [if_pos h1]
  clear h1
  refine goM ?_
  exact AY ⟨rfl, hM.pre⟩
 ·have d1 : decide (a < b) = false := decide_eq_false h1
  rw [if_neg h1]
  clear h1
  by_cases h2 : a > b
  ·have d2 : decide (a > b) = true := decide_eq_true h2
   rw [if_pos h2]
   clear h2
   refine goM ?_
   exact AY ⟨rfl, hM.pre⟩
  ·have d2 : decide (a > b) = false := decide_eq_false h2
   rw [if_neg h2]
   clear h2
   refine goM ?_
   exact AY ⟨rfl, hM.pre⟩
theorem ZR (H : Heap) (b : Nat) (sv : V) (ss : List Int) (a c : Nat) (hb : H[b]? = some (.row [sv] true)) (hs : Sl 1 AH H sv ss) (ha : a < ss.length) (hc : c < ss.length) :
  Call Tryz.prog 225 [.int .i64 (a : Int), .int .i64 (c : Int), .ptr b 0] H (.int .i64 (TH (Ak ss a) (Ak ss c))) H := by
 refine AQ fit mixed Tryz.func225 rfl rfl rfl (by kernel_rfl) rfl fun hM => ?_
 have l0 : loadV T 27 H b 0 = some sv := AU T27 rfl hb rfl
 obtain ⟨b1, o1, _, hi1, rfl, _, hlo1, _⟩ := hs.get T27 rfl T3 rfl (SP (xs := ss) (k := a) ha)
 have ho1 := AF T3 rfl hlo1
 obtain ⟨b2, o2, _, hi2, rfl, _, hlo2, _⟩ := hs.get T27 rfl T3 rfl (SP (xs := ss) (k := c) hc)
 have ho2 := AF T3 rfl hlo2
 have c1 := XP H (Ak ss a) (Ak ss c)
 unfold Ak at c1 ⊢
 refine goM ?_
 refine AI c1 ?_
 refine goM ?_
 exact AY ⟨rfl, hM.pre⟩
theorem Mv (i n : Nat) (h : i < n) : List.range' i (n - i) = i :: List.range' (i + 1) (n - (i + 1)) := by
 obtain ⟨m, rfl⟩ : ∃ m, n = i + 1 + m := ⟨n - (i + 1), by omega⟩
 rw [show i + 1 + m - i = m + 1 by omega, show i + 1 + m - (i + 1) = m by omega]
 rfl
theorem Yh (B H : Heap) (L0 : List Res) (b n : Nat) (v sv : V) (ss : List Int) (hn : ss.length = n) (h8 : n ≤ 20) (h1 : 1 ≤ n) (hs : Sl 1 AH B sv ss) (hM : Mem B H (.own 1 Fk v (List.range n) :: .box b [sv] :: L0)) :
  ∃ w H', Call Tryz.prog 240 [v, .int .i64 0, .int .i64 (n : Int), .fn 225 [.ptr b 0]] H w H' ∧ w = .tup [] ∧ Mem B H' (.own 1 Fk v (Cf (Ak ss) n) :: .box b [sv] :: L0) := by
 refine CO fit mixed hM Tryz.func240 rfl rfl rfl (by kernel_rfl) fun _ => ?_
 refine goM ?_
 refine AT (fun m ρ hp => ∃ i : Nat, 1 ≤ i ∧ i ≤ n ∧ m = n - i ∧ Mem B hp (.own 1 Fk v (Cf (Ak ss) i ++ List.range' i (n - i)) :: .box b [sv] :: L0) ∧ ρ 0 = v ∧ ρ 1 = .int .i64 0 ∧ ρ 2 = .int .i64 (n : Nat) ∧ ρ 3 = .fn 225 [.ptr b 0] ∧ ρ 8 = .int .i64 (i : Nat)) ⟨1, Nat.le_refl _, h1, rfl, ?_, rfl, rfl, rfl, rfl, rfl⟩ ?_
 ·have e : Cf (Ak ss) 1 ++ List.range' 1 (n - 1) = List.range n := by
   rw [List.range_eq_range']
   have := Mv 0 n h1
   rw [Nat.sub_zero] at this
   rw [this]; rfl
  rw [e]; exact hM
 clear hM
 rintro _ ρ hp ⟨i, hi1, hi, rfl, hM, h0, h1', h2, h3, h8'⟩
 refine goM ?_
 refine AE (fun hb => ?_) (fun hb => ?_)
 ·have hi' : i < n := by simpa using hb
  clear hb
  have hrl := GS (Ak ss) i
  have hrm := IH (Ak ss) i
  have hwi := AG (n := i) (by omega)
  have hnext : Cf (Ak ss) (i + 1) = PR (Ak ss) i (Cf (Ak ss) i) := rfl
  rw [Mv i n hi'] at hM
  obtain ⟨rest, hrest⟩ : ∃ r, List.range' (i + 1) (n - (i + 1)) = r := ⟨_, rfl⟩
  rw [hrest, ← mid_end, hrl] at hM
  rw [PR, hrl] at hnext
  generalize Cf (Ak ss) i = row at *
  refine goM ?_
  refine AT (fun m ρ hp => ∃ k : Nat, k ≤ i ∧ m = k ∧ insPos (Ak ss) i row i = insPos (Ak ss) i row k ∧ Mem B hp (.own 1 Fk v (mid row k i rest) :: .box b [sv] :: L0) ∧ ρ 0 = v ∧ ρ 1 = .int .i64 0 ∧ ρ 2 = .int .i64 (n : Nat) ∧ ρ 3 = .fn 225 [.ptr b 0] ∧ ρ 8 = .int .i64 (i : Nat) ∧ ρ 9 = .int .i64 (k : Nat)) ⟨i, Nat.le_refl _, rfl, rfl, hM, h0, h1', h2, h3, h8', rfl⟩ ?_
  clear hM h0 h1' h2 h3 h8'
  clear ρ hp
  rintro k ρ hp ⟨_, hk, rfl, hpos, hM, h0, h1', h2, h3, h8', h9⟩
  -- what comes behind the inner loop
  have leave : (k = 0 ∨ ¬ Ak ss (row.getD (k - 1) 0) > Ak ss i) → Mem B hp (.own 1 Fk v (Cf (Ak ss) (i + 1) ++ rest) :: .box b [sv] :: L0) := fun h => by
   have e : insPos (Ak ss) i row i = k := by rw [hpos, Mo h]
   rw [hnext, e, ← Yx]; exact hM
  cases k with
  | zero =>
   have hM2 := leave (.inl rfl)
   clear leave hM
   have hd : decide (((0 : Nat) : Int) > 0) = false := rfl
   refine goM ?_
   rw [← hrest] at hM2
   exact ⟨n - (i + 1), by omega, i + 1, by omega, hi', rfl, hM2, by simp [AD, AB, *]⟩
  | succ k =>
   have hd : decide (((k + 1 : Nat) : Int) > 0) = true := decide_eq_true (by omega)
   have hw1 : IntKind.i64.wrap (((k + 1 : Nat) : Int) - 1) = (k : Int) := by rw [wrap_i64 (by omega) (by omega)]; omega
   have hki : k < row.length := by omega
   obtain ⟨y, hy⟩ : ∃ y, row.getD k 0 = y := ⟨_, rfl⟩
   have hyn : y < n := by
    have : y ∈ row := by rw [← hy, List.getD_eq_getElem?_getD, List.getElem?_eq_getElem hki]; exact List.getElem_mem _
    have := (hrm y).1 this; omega
   have g1 := eL i rest (by omega : k + 1 ≤ row.length)
   have g2 := Vq i rest (Nat.lt_succ_self k) (by omega : k + 1 ≤ row.length)
   rw [hy] at g2
   have hsl := hM.sl .here
   obtain ⟨b1, o1, _, hi1', rfl, _, hlo1, _⟩ := hsl.get T27 rfl T3 rfl g1
   have ho1 := AF T3 rfl hlo1
   obtain ⟨b2, o2, _, hi2', rfl, _, hlo2, _⟩ := hsl.get T27 rfl T3 rfl g2
   have ho2 := AF T3 rfl hlo2
   have c1 := ZR hp b sv ss i y (hM.row (.there .here)) (hs.mono hM.pre) (by omega) (by omega)
   have hcn := XO (Ak ss i) (Ak ss y)
   have hleave2 : decide (Ak ss i < Ak ss y) = false → Mem B hp (.own 1 Fk v (Cf (Ak ss) (i + 1) ++ rest) :: .box b [sv] :: L0) := fun h => leave (.inr (by
    rw [Nat.add_sub_cancel, hy]; simpa using h))
   have hpos2 : decide (Ak ss i < Ak ss y) = true → insPos (Ak ss) i row (k + 1) = insPos (Ak ss) i row k := fun h => Mp (by rw [hy]; simpa using h)
   have hlen1 : (mid row (k + 1) i rest).length = row.length + 1 + rest.length := NP _ _ (by omega)
   obtain ⟨b3, hi3, put1⟩ := hM.elem .here T27 rfl T3 rfl (k := k + 1) (by omega)
   obtain ⟨H1, st1, hM1⟩ := put1 (.int .i64 (y : Int)) y rfl rfl rfl
   obtain ⟨b4, hi4, Iw⟩ := hM1.elem .here T27 rfl T3 rfl (k := k) (by simp only [List.length_set]; omega)
   obtain ⟨H2, st2, hM2⟩ := Iw (.int .i64 (i : Int)) i rfl rfl rfl
   rw [← hy, Yy i rest hki] at hM2
   rw [hi1'] at hi3
   cases hi3
   rw [hi2'] at hi4
   cases hi4
   obtain ⟨t, ht⟩ : ∃ t, decide (Ak ss i < Ak ss y) = t := ⟨_, rfl⟩
   rw [ht] at hcn hleave2 hpos2
   clear leave put1 Iw hlo1 hlo2 hsl g1 g2 ht hM1 hlen1 hnext
   refine goM ?_
   refine AI c1 ?_
   cases t with
   | false =>
    have hM3 := hleave2 rfl
    clear hleave2 hpos2 hM hM2
    refine goM ?_
    rw [← hrest] at hM3
    exact ⟨n - (i + 1), by omega, i + 1, by omega, hi', rfl, hM3, by simp [AD, AB, *]⟩
   | true =>
    have hpos3 := hpos2 rfl
    clear hleave2 hpos2 hM
    refine goM ?_
    refine Jx st1 ?_
    refine goM ?_
    refine Jx st2 ?_
    refine goM ?_
    exact ⟨k, by omega, k, by omega, rfl, by rw [hpos, hpos3], hM2, by simp [AD, AB, *]⟩
 ·have hi' : i = n := by have : ¬ i < n := by simpa using hb
                         omega
  subst hi'
  clear hb
  rw [Nat.sub_self, show List.range' i 0 = [] from rfl, List.append_nil] at hM
  refine goM ?_
  exact Bu (by simp only [resRf, resRs, resR]; first | done | rfl) ⟨rfl, hM⟩
theorem cB (B H : Heap) (L0 : List Res) (b n : Nat) (v sv : V) (ss : List Int) (hn : ss.length = n) (h8 : n ≤ 8) (h1 : 1 ≤ n) (hs : Sl 1 AH B sv ss) (hM : Mem B H (.own 1 Fk v (List.range n) :: .box b [sv] :: L0)) :
  ∃ w H', Call Tryz.prog 236 [v, .int .i64 (n : Int), .fn 225 [.ptr b 0]] H w H' ∧ w = .tup [] ∧ Mem B H' (.own 1 Fk v (Cf (Ak ss) n) :: .box b [sv] :: L0) := by
 refine CO fit mixed hM Tryz.func236 rfl rfl rfl (by kernel_rfl) fun _ => ?_
 have d1 : decide ((20 : Int) ≤ (n : Int)) = false := decide_eq_false (by omega)
 have d2 : decide ((20 : Int) < (n : Int)) = false := decide_eq_false (by omega)
 obtain ⟨_, H1, c1, rfl, hM1⟩ := Yh B H L0 b n v sv ss hn (by omega) h1 hs hM
 clear hM
 refine goM ?_
 refine AT (fun m ρ hp => hp = H ∧ ρ 0 = v ∧ ρ 1 = .int .i64 (n : Int) ∧ ρ 2 = .fn 225 [.ptr b 0] ∧ ρ 6 = .int .i64 20 ∧ ρ 7 = .int .i64 0 ∧ ρ 8 = .int .i64 20) (m := 0) ⟨rfl, rfl, rfl, rfl, rfl, rfl, rfl⟩ ?_
 rintro _ ρ hp ⟨rfl, e0, e1, e2, e6, e7, e8⟩
 refine goM ?_
 refine AA c1 ?_
 clear c1
 refine goM ?_
 refine AT (fun m ρ hp => hp = H1 ∧ ρ 1 = .int .i64 (n : Int) ∧ ρ 6 = .int .i64 20) (m := 0) ⟨rfl, by simp [AD, AB, *], by simp [AD, AB, *]⟩ ?_
 clear e0 e1 e2 e6 e7 e8
 clear ρ
 rintro _ ρ hp2 ⟨rfl, e1, e6⟩
 refine goM ?_
 exact Bu (by simp only [resRf, resRs, resR]; first | done | rfl) ⟨rfl, hM1⟩
theorem Ta (B H : Heap) (L0 : List Res) (b n : Nat) (v sv : V) (ss : List Int) (hn : ss.length = n) (h8 : n ≤ 8) (h1 : 1 ≤ n) (hs : Sl 1 AH B sv ss) (hM : Mem B H (.own 1 Fk v (List.range n) :: .box b [sv] :: L0)) :
  ∃ w H', Call Tryz.prog 224 [v, .fn 225 [.ptr b 0]] H w H' ∧ w = .tup [] ∧ Mem B H' (.own 1 Fk v (Cf (Ak ss) n) :: .box b [sv] :: L0) := by
 refine CO fit mixed hM Tryz.func224 rfl rfl rfl (by kernel_rfl) fun _ => ?_
 have hlen := (hM.sl .here).len T27 rfl
 rw [List.length_range] at hlen
 obtain ⟨_, H1, c1, rfl, hM1⟩ := cB B H L0 b n v sv ss hn h8 h1 hs hM
 clear hM
 refine goM ?_
 refine AA c1 ?_
 refine goM ?_
 exact Bu (by simp only [resRf, resRs, resR]; first | done | rfl) ⟨rfl, hM1⟩
def Fa (ss : List Int) : Bool := (decide (1 ≤ ss.length) && decide (ss.length ≤ 8)) && BF ss
def QE (ss : List Int) : Int := if Fa ss then 0 else 1200
def FE (ss : List Int) : List Nat := if Fa ss then Cf (Ak ss) ss.length else []
theorem Wh {k n : Nat} (hk : k < n) : (List.range k ++ List.replicate (n - k) 0).set k k = List.range (k + 1) ++ List.replicate (n - (k + 1)) 0 := by
 obtain ⟨m, rfl⟩ : ∃ m, n = k + 1 + m := ⟨n - (k + 1), by omega⟩
 rw [show k + 1 + m - k = m + 1 by omega, show k + 1 + m - (k + 1) = m by omega, List.replicate_succ]
 have := Hj (List.range k) 0 k (List.replicate m 0)
 rw [List.length_range] at this
 rw [this, List.range_succ, List.append_assoc]; rfl
theorem bO (H : Heap) (sv : V) (ss : List Int) (hs : Sl 1 AH H sv ss) (hl : ss.length ≤ 2 ^ 47) : ∃ w H', Call Tryz.prog 200 [sv] H w H' ∧ ∃ u, w = .tup [u, .int .i64 (QE ss)] ∧ Mem H H' [.own 1 Fk u (FE ss)] := by
 have s0 := hs.cells
 have hlen := hs.len T27 rfl
 refine Ao fit mixed Tryz.func200 rfl rfl rfl (by kernel_rfl) fun hM => ?_
 refine AO (AK ?_)
 refine Ax T27 fun b1 H1 hM => ?_
 have c1 := NX H1 sv ss (hs.mono hM.pre) hl
 unfold QE FE Fa
 obtain ⟨n, hn⟩ : ∃ n, ss.length = n := ⟨_, rfl⟩
 rw [hn] at hlen ⊢
 by_cases hz : n = 0
 ·subst hz
  have d1 : ((((0 : Nat) : Int)) == 0) = true := rfl
  refine goM ?_
  exact An ⟨.AN, rfl, (Mem.start H).grow hM.pre |>.nil 1 Fk |>.front .here⟩
 have d1 : ((n : Int) == 0) = false := by simpa using hz
 by_cases h8 : n ≤ 8
 ·have d2 : decide ((n : Int) > 8) = false := decide_eq_false (by omega)
  obtain ⟨vm, hvm⟩ : ∃ q, BF ss = q := ⟨_, rfl⟩
  rw [hvm] at c1 ⊢
  cases vm with
  | false =>
   have e1 : ((decide (1 ≤ n) && decide (n ≤ 8)) && false) = false := by simp
   simp only [e1]
   refine goM ?_
   refine AA c1 ?_
   refine goM ?_
   exact An ⟨.AN, rfl, (Mem.start H).grow hM.pre |>.nil 1 Fk |>.front .here⟩
  | true =>
   have e1 : ((decide (1 ≤ n) && decide (n ≤ 8)) && true) = true := by simp; omega
   simp only [e1, if_true]
   refine goM ?_
   refine AA c1 ?_
   clear e1 hvm c1 d1 d2
   refine goM ?_
   refine Vl 1 Fk T27 rfl T3 (n := n) (z := 0) rfl rfl rfl rfl rfl ⟨by show (8 : Int) * _ ≤ _; omega, by omega⟩ fun v H2 hM => ?_
   have hvl := (hM.sl .here).len T27 rfl
   rw [List.length_replicate] at hvl
   refine goM ?_
   refine AT (fun m ρ hp => ∃ k : Nat, k ≤ n ∧ m = n - k ∧ Mem H hp [.own 1 Fk v (List.range k ++ List.replicate (n - k) 0), .box b1 [sv]] ∧ ρ 1 = .ptr b1 0 ∧ ρ 4 = v ∧ ρ 23 = .int .i64 (n : Int) ∧ ρ 24 = .int .i64 (k : Nat)) ⟨0, Nat.zero_le _, rfl, hM, rfl, rfl, rfl, rfl⟩ ?_
   clear hM
   rintro _ ρ hp ⟨k, hk, rfl, hM, h1, h4, h23, h24⟩
   refine goM ?_
   refine AE (fun hb => ?_) (fun hb => ?_)
   ·have hk' : k < n := by simpa using hb
    clear hb
    obtain ⟨b3, hi3, put1⟩ := hM.elem .here T27 rfl T3 rfl (k := k) (by simp; omega)
    obtain ⟨H3, st1, hM1⟩ := put1 (.int .i64 (k : Int)) k rfl rfl rfl
    rw [Wh hk'] at hM1
    have hw := AG (n := k) (by omega)
    clear put1 hM
    refine goM ?_
    refine Dc st1 ?_
    refine goM ?_
    exact ⟨n - (k + 1), by omega, k + 1, hk', rfl, hM1, by simp [AD, AB, *]⟩
   ·have hk' : k = n := by have : ¬ k < n := by simpa using hb
                           omega
    subst hk'
    clear hb
    rw [Nat.sub_self, List.replicate_zero, List.append_nil] at hM
    obtain ⟨_, H3, c2, rfl, hM1⟩ := Ta H hp [] b1 k v sv ss hn h8 (by omega) hs hM
    clear hM
    refine goM ?_
    refine AA c2 ?_
    refine goM ?_
    exact An ⟨v, rfl, hM1.Ea⟩
 ·have d2 : decide ((n : Int) > 8) = true := decide_eq_true (by omega)
  have e1 : ((decide (1 ≤ n) && decide (n ≤ 8)) && BF ss) = false := by simp [h8]
  simp only [e1]
  refine goM ?_
  exact An ⟨.AN, rfl, (Mem.start H).grow hM.pre |>.nil 1 Fk |>.front .here⟩
theorem Sl.ints {H : Heap} {v : V} {xs : List Nat} (h : Sl 1 Fk H v xs) : Sl 1 AH H v (xs.map fun (k : Nat) => (k : Int)) := by
 rcases h with ⟨rfl, rfl⟩ | ⟨b, off, cap, t, cs, wr, rfl, h1, h2, h3, h4⟩
 ·exact .inl ⟨rfl, rfl⟩
 ·refine .inr ⟨b, off, cap, t, cs, wr, by rw [List.length_map], by rw [List.length_map]; exact h1, h2, by rw [List.length_map]; exact h3, fun k y hy => ?_⟩
  rw [List.getElem?_map] at hy
  cases hx : xs[k]? with
  | none => rw [hx] at hy; cases hy
  | some x => rw [hx] at hy; cases hy; exact h4 k x hx
theorem eC (H : Heap) (v : V) (xs : List Int) (x : Int) (hs : Sl 1 AH H v xs) (hl : xs.length ≤ 2 ^ 47) : ∃ w H', Call Tryz.prog 227 [v, .int .i64 x] H w H' ∧ H <+: H' ∧ ∃ r, w = .int .i64 r ∧ decide (r ≥ 0) = decide (x ∈ xs) := by
 have hlen := hs.len T27 rfl
 obtain ⟨n, hn⟩ : ∃ n, xs.length = n := ⟨_, rfl⟩
 rw [hn] at hlen hl
 refine Ao fit mixed Tryz.func227 rfl rfl rfl (by kernel_rfl) fun hM => ?_
 clear hM
 refine goM ?_
 refine AT (fun m ρ hp => ∃ k : Nat, k ≤ n ∧ m = n - k ∧ hp = H ∧ (∀ j : Nat, j < k → xs[j]? ≠ some x) ∧ ρ 0 = v ∧ ρ 1 = .int .i64 x ∧ ρ 7 = .int .i64 (n : Int) ∧ ρ 8 = .int .i64 (k : Nat)) ⟨0, Nat.zero_le _, rfl, rfl, fun j h => absurd h (Nat.not_lt_zero _), rfl, rfl, rfl, rfl⟩ ?_
 rintro _ ρ hp ⟨k, hk, rfl, hpe, hno, h0, h1, h7, h8⟩
 subst hpe
 refine goM ?_
 refine AE (fun hb => ?_) (fun hb => ?_)
 ·have hk' : k < n := by simpa using hb
  clear hb
  have hg : xs[k]? = some (xs.getD k 0) := SP (by omega)
  obtain ⟨b1, o1, _, hi1, rfl, _, hlo1, _⟩ := hs.get T27 rfl T3 rfl hg
  have ho1 := AF T3 rfl hlo1
  have hw := AG (n := k) (by omega)
  generalize xs.getD k 0 = y at *
  refine goM ?_
  refine AE (fun hb => ?_) (fun hb => ?_)
  ·have he : x = y := by simpa using hb
   subst he
   clear hb
   have hm : x ∈ xs := List.mem_iff_getElem?.2 ⟨k, hg⟩
   refine goM ?_
   refine AY ⟨List.prefix_refl _, (k : Int), rfl, ?_⟩
   rw [decide_eq_true hm]; simp
  ·have he : x ≠ y := by simpa using hb
   clear hb
   have hno' : ∀ j : Nat, j < k + 1 → xs[j]? ≠ some x := fun j hj hx => by
    by_cases hjk : j = k
    ·subst hjk; rw [hg] at hx; cases hx; exact he rfl
    ·exact hno j (by omega) hx
   clear he hno
   refine goM ?_
   exact ⟨n - (k + 1), by omega, k + 1, hk', rfl, rfl, hno', by simp [AD, AB, *]⟩
 ·have hk' : k = n := by have : ¬ k < n := by simpa using hb
                         omega
  subst hk'
  clear hb
  have hm : ¬ x ∈ xs := fun h => by
   obtain ⟨j, hj⟩ := List.mem_iff_getElem?.1 h
   exact hno j (by have := (List.getElem?_eq_some_iff.1 hj).1; omega) hj
  clear hno
  refine goM ?_
  refine AY ⟨List.prefix_refl _, -1, rfl, ?_⟩
  rw [decide_eq_false hm]; rfl
theorem WZ (H : Heap) (v : V) (xs : List Int) (x : Int) (hs : Sl 1 AH H v xs) (hl : xs.length ≤ 2 ^ 47) : Call Tryz.prog 201 [v, .int .i64 x] H (.bool (decide (x ∈ xs))) H := by
 obtain ⟨_, H1, c1, p1, r, rfl, hr⟩ := eC H v xs x hs hl
 generalize decide (x ∈ xs) = q at *
 refine AQ fit mixed Tryz.func201 rfl rfl rfl (by kernel_rfl) rfl fun hM => ?_
 refine goM ?_
 refine AA c1 ?_
 refine goM ?_
 exact AY ⟨rfl, p1⟩
def Gz (ss : List Int) (m cut x : Int) : Bool := Fa ss && (!decide (m < 0) && (!decide (m ≥ (ss.length : Int)) && (!decide (cut < 1) && (!decide (cut > ((ss.length / 2 : Nat) : Int)) && (!decide (x < 0) && !decide (x ≥ 65536))))))
def EU (ss : List Int) (cut : Int) : List Int := ((FE ss).drop (ss.length - cut.toNat)).map fun (k : Nat) => (k : Int)
def Ew (ss : List Int) (m cut x : Int) : Int × Bool × Int :=
 if Gz ss m cut x then (if decide (m ∈ EU ss cut) then (((FE ss).getD (x.toNat * cut.toNat / 65536) 0 : Nat), true, 0) else (0, false, 0)) else (0, false, 1300)
theorem MQ {ss : List Int} (h : Fa ss = true) : (FE ss).length = ss.length ∧ 1 ≤ ss.length ∧ ss.length ≤ 8 := by
 have h' := h
 unfold Fa at h'
 simp only [Bool.and_eq_true, decide_eq_true_eq] at h'
 unfold FE
 rw [if_pos h]
 exact ⟨GS _ _, h'.1.1, h'.1.2⟩
theorem dV (H : Heap) (sv : V) (ss : List Int) (m cut x : Int) (hs : Sl 1 AH H sv ss) (hl : ss.length ≤ 2 ^ 47) :
  Call Tryz.prog 146 [sv, .int .i64 m, .int .i64 cut, .int .i64 x] H (.tup [.int .i64 (Ew ss m cut x).1, .bool (Ew ss m cut x).2.1, .int .i64 (Ew ss m cut x).2.2]) H := by
 refine AQ fit mixed Tryz.func146 rfl rfl rfl (by kernel_rfl) rfl fun hM => ?_
 obtain ⟨_, H1, c1, u, rfl, m1⟩ := bO H sv ss hs hl
 have s1 := (m1.sl .here).cells
 have hM1 := hM.BH m1
 have hsl := m1.sl .here
 have hlen := hsl.len T27 rfl
 clear hM m1
 refine goM ?_
 refine AA c1 ?_
 clear c1
 unfold Ew Gz
 unfold QE
 cases hmay : Fa ss with
 | false =>
  have hv : (V.tup [.int .i64 0, .bool false, .int .i64 1300]) = V.tup [.int .i64 0, .bool false, .int .i64 1300] := rfl
  simp only [Bool.false_and, Bool.false_eq_true, if_false]
  refine goM ?_
  exact CI ⟨rfl, hM1.pre⟩
 | true =>
  obtain ⟨hrl, hn1, hn8⟩ := MQ hmay
  obtain ⟨n, hn⟩ : ∃ n, ss.length = n := ⟨_, rfl⟩
  rw [hrl, hn] at hlen
  rw [hn] at hrl hn1 hn8
  have hq : IntKind.i64.wrap ((n : Int).tdiv 2) = ((n / 2 : Nat) : Int) := by
   rw [show (n : Int).tdiv 2 = ((n / 2 : Nat) : Int) from (Int.ofNat_tdiv n 2).symm]; exact Am (by omega)
  have hla : EU ss cut = ((FE ss).drop (n - cut.toNat)).map fun (k : Nat) => (k : Int) := by unfold EU; rw [hn]
  simp only [Bool.true_and, if_true, hn]
  obtain ⟨q1, e1⟩ : ∃ q, decide (m < 0) = q := ⟨_, rfl⟩
  obtain ⟨q2, e2⟩ : ∃ q, decide (m ≥ (n : Int)) = q := ⟨_, rfl⟩
  obtain ⟨q3, e3⟩ : ∃ q, decide (cut < 1) = q := ⟨_, rfl⟩
  obtain ⟨q4, e4⟩ : ∃ q, decide (cut > ((n / 2 : Nat) : Int)) = q := ⟨_, rfl⟩
  obtain ⟨q5, e5⟩ : ∃ q, decide (x < 0) = q := ⟨_, rfl⟩
  obtain ⟨q6, e6⟩ : ∃ q, decide (x ≥ 65536) = q := ⟨_, rfl⟩
  rw [e1, e2, e3, e4, e5, e6]
  cases q1
  rotate_left
  ·simp only [Bool.not_true, Bool.false_and, Bool.false_eq_true, if_false]
   refine goM ?_
   exact CI ⟨rfl, hM1.pre⟩
  cases q2
  rotate_left
  ·simp only [Bool.not_true, Bool.not_false, Bool.true_and, Bool.false_and, Bool.false_eq_true, if_false]
   refine goM ?_
   exact CI ⟨rfl, hM1.pre⟩
  cases q3
  rotate_left
  ·simp only [Bool.not_true, Bool.not_false, Bool.true_and, Bool.false_and, Bool.false_eq_true, if_false]
   refine goM ?_
   exact CI ⟨rfl, hM1.pre⟩
  cases q4
  rotate_left
  ·simp only [Bool.not_true, Bool.not_false, Bool.true_and, Bool.false_and, Bool.false_eq_true, if_false]
   refine goM ?_
   exact CI ⟨rfl, hM1.pre⟩
  cases q5
  rotate_left
  ·simp only [Bool.not_true, Bool.not_false, Bool.true_and, Bool.false_and, Bool.false_eq_true, if_false]
   refine goM ?_
   exact CI ⟨rfl, hM1.pre⟩
  cases q6
  rotate_left
  ·simp only [Bool.not_true, Bool.not_false, Bool.true_and, Bool.false_and, Bool.false_eq_true, if_false]
   refine goM ?_
   exact CI ⟨rfl, hM1.pre⟩
  simp only [Bool.not_false, Bool.true_and, if_true]
  have i3 := of_decide_eq_false e3
  have i4 := of_decide_eq_false e4
  have i5 := of_decide_eq_false e5
  have i6 := of_decide_eq_false e6
  obtain ⟨c, hc⟩ : ∃ c : Nat, cut = c := ⟨cut.toNat, by omega⟩
  obtain ⟨y, hy⟩ : ∃ y : Nat, x = y := ⟨x.toNat, by omega⟩
  subst hc; subst hy
  simp only [Int.toNat_natCast] at hla ⊢
  have hw1 : IntKind.i64.wrap ((n : Int) - (c : Int)) = ((n - c : Nat) : Int) := by rw [wrap_i64 (by omega) (by omega)]; omega
  obtain ⟨w, hsl1, hsl2⟩ := hsl.rest (l := n - c) (by omega)
  replace hsl1 : sliceV 1 u (some (.int .i64 ((n - c : Nat) : Int))) none none = some w := hsl1
  have c2 := WZ H1 w _ m hsl2.ints (by rw [List.length_map, List.length_drop]; omega)
  rw [← hla] at c2
  have hyc : y * c ≤ 65535 * c := Nat.mul_le_mul_right _ (by omega)
  have hq2 : y * c / 65536 < n := by omega
  have hw2 : IntKind.i64.wrap ((y : Int) * (c : Int)) = ((y * c : Nat) : Int) := by rw [← Int.natCast_mul]; exact Am (by omega)
  have hw3 : IntKind.i64.wrap (((y * c : Nat) : Int).tdiv 65536) = ((y * c / 65536 : Nat) : Int) := by
   rw [show ((y * c : Nat) : Int).tdiv 65536 = ((y * c / 65536 : Nat) : Int) from (Int.ofNat_tdiv (y * c) 65536).symm]; exact Am (by omega)
  have hg : (FE ss)[y * c / 65536]? = some ((FE ss).getD (y * c / 65536) 0) := by simp [List.getD_eq_getElem?_getD, hrl, hq2]
  obtain ⟨b1, o1, _, hi1, rfl, _, hlo1, _⟩ := hsl.get T27 rfl T3 rfl hg
  have ho1 := AF T3 rfl hlo1
  have hpre := hM1.pre
  generalize (FE ss).getD (y * c / 65536) 0 = d at *
  generalize y * c / 65536 = q at *
  obtain ⟨t, ht⟩ : ∃ t, decide (m ∈ EU ss (c : Int)) = t := ⟨_, rfl⟩
  rw [ht] at c2 ⊢
  clear i3 i4 i5 i6 hla hyc hq2 hg hlo1 hsl2 hsl ht
  cases t with
  | false =>
   refine goM ?_
   refine AA c2 ?_
   refine goM ?_
   exact CI ⟨rfl, hpre⟩
  | true =>
   refine goM ?_
   refine AA c2 ?_
   refine goM ?_
   exact CI ⟨rfl, hpre⟩
end Go.Proofs.YtncjbjlmgnjhiaaGreat.VM
