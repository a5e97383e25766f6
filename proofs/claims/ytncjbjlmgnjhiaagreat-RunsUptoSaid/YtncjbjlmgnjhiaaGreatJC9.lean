/- Joined texts: StepP, StepQ, TrainP, StepR, StepS, StepT, StepU, RowD, FoldP, FoldS, FoldT, EvA. -/
import Derived.Test.YtncjbjlmgnjhiaaGreatJC3
import Derived.Test.YtncjbjlmgnjhiaaGreatJC5
import Derived.Test.YtncjbjlmgnjhiaaGreatJC6
import Derived.Test.YtncjbjlmgnjhiaaGreatJC7
import Derived.Test.YtncjbjlmgnjhiaaGreatJC8
namespace Go.Proofs.YtncjbjlmgnjhiaaGreat.VM
open Go
set_option linter.unusedVariables false
set_option linter.unusedSimpArgs false
attribute [local irreducible] wq wqL wqD wqE wqO Th Bk EndR
set_option maxHeartbeats 8000000
def Is (x : Int) (dn : Bool) : Int := times x (if dn = true then 52429 else 81920)
def IG (r m : Int) (b : Nat) : Int × Int := (min 16384 (max 64 (Is r (b % 2 == 1))), min 58982 (max 0 (Is m (decide (2 ≤ b)))))
def FL (c : Cfg) (r m : Int) (k : Nat) : Int × Int := if c.pert = true then IG r m (DQ c.seed.toNat (k + 1) 4) else ((DR c.seed.toNat (k + 2) : Nat), (GI c.seed.toNat (k + 2) : Nat))
theorem ZN (r m : Int) (b : Nat) : BK (IG r m b).1 (IG r m b).2 = true := by
 unfold BK IG
 simp only [Bool.and_eq_true, within_iff]
 omega
theorem QP (c : Cfg) (r m : Int) (k : Nat) : BK (FL c r m k).1 (FL c r m k).2 = true := by
 unfold FL
 split
 ·exact ZN _ _ _
 ·exact SW _ _
def DB (ms : List (Chk × Int)) (p : Nat) : Chk × Int := ms.getD p (FP, 0)
def AP (s : St) (p : Nat) : Chk := Dm s.c p (DB s.ms p).1
def ms1 (s : St) (p : Nat) : List (Chk × Int) := s.ms.set p (AP s p, (DB s.ms p).2)
def es1 (s : St) (p : Nat) : List Ev := s.es ++ [⟨0, p, 0, 0, 0, 0⟩]
def atN (p : Nat) (t : Int) : Nat := 100000 + 4096 * p + 8 * t.toNat
def Cg (s : St) (p : Nat) : Int × Bool × Int := Ew ((ms1 s p).map fun m => (By s.c m.1).1) p s.c.cutn (Db s.c.seed.toNat (atN p (AP s p).t))
def DE (s : St) (p : Nat) : Bool := decide ((AP s p).t.tmod s.c.interval = 0) && (Cg s p).2.1
def Iu (s : St) (p : Nat) : Chk := (DB (ms1 s p) (Cg s p).1.toNat).1
def Ek (s : St) (p : Nat) : Int × Int := FL s.c (Iu s p).r (Iu s p).m (atN p (AP s p).t)
def Ci (s : St) (p : Nat) : Chk := if DE s p = true then ⟨(Iu s p).ws, (Iu s p).vs, (Ek s p).1, (Ek s p).2, (AP s p).t⟩ else AP s p
def es2 (s : St) (p : Nat) : List Ev := if DE s p = true then es1 s p ++ [⟨1, p, (Cg s p).1, (BD (es1 s p) (Cg s p).1 : Nat), 0, 0⟩, ⟨2, p, 0, 0, (Ek s p).1, (Ek s p).2⟩] else es1 s p
def Iw (st : List Ent) (t : ByteArray) : List Ent × Int × Int := if (putS st t).2.2 = 0 then putS st t else putS (EE st).1 t
def st2 (s : St) (p : Nat) : List Ent := (DP (Iw s.st (BB (Ci s p))).1 (DB s.ms p).2).1
def GC (s : St) (p : Nat) : Int := (Iw s.st (BB (Ci s p))).2.1
def doS (s : St) (p : Nat) : St := ⟨s.c, s.ms.set p (Ci s p, GC s p), es2 s p, st2 s p⟩
def Lt (s : St) (pick : Int) : Bool := BZ s && within pick 0 (IntKind.i64.wrap (s.c.m - 1)) && decide (s.es.length + 4 ≤ 1024)
def doR (s : St) (pick : Int) : St × Int := if Lt s pick = true then (if (DB s.ms pick.toNat).1.t = s.c.total then (DN, 2301) else (doS s pick.toNat, 0)) else (DN, 2300)
structure It (s : St) : Prop where
 c : Al s.c = true
 len : (s.ms.length : Int) = s.c.m
 fits : ∀ m ∈ s.ms, BW s.c m.1 = true
 tot : ∀ m ∈ s.ms, m.1.t ≤ s.c.total
 es : Ap s.es s.c.m = true
 st : Bx s.st
 head : ∀ m ∈ s.ms, Cl s.st m.2 = (BB m.1, true)
 held : ∀ e ∈ s.st, e.n = (BQ s.ms e.id : Int)
theorem Eh {s : St} (h : BZ s = true) : It s := by
 unfold BZ HJ at h
 simp only [Bool.and_eq_true, decide_eq_true_eq, List.all_eq_true] at h
 obtain ⟨⟨⟨⟨⟨h1, h2⟩, h3⟩, h4⟩, h5⟩, h6, h7⟩ := h
 refine ⟨h1, h2, fun m hm => ?_, fun m hm => ?_, h4, Cd h5, fun m hm => ?_, fun e he => ?_⟩
 ·have := h3 m hm
  unfold FO at this
  rw [Bool.and_eq_true] at this
  exact this.1
 ·have := h3 m hm
  unfold FO at this
  rw [Bool.and_eq_true, decide_eq_true_eq] at this
  exact this.2
 ·have := h6 m hm
  unfold FW at this
  rw [Bool.and_eq_true] at this
  obtain ⟨g1, g2⟩ := this
  exact Prod.ext (Ft.1 g2) g1
 ·have := h7 e he
  unfold Dn at this
  exact of_decide_eq_true this
theorem RL {s : St} (h : It s) : BZ s = true := by
 unfold BZ HJ
 simp only [Bool.and_eq_true, decide_eq_true_eq, List.all_eq_true]
 refine ⟨⟨⟨⟨⟨h.c, h.len⟩, fun m hm => ?_⟩, h.es⟩, EV h.st⟩, fun m hm => ?_, fun e he => ?_⟩
 ·unfold FO
  rw [h.fits m hm, decide_eq_true (h.tot m hm)]; rfl
 ·unfold FW
  rw [h.head m hm]
  simp [FZ]
 ·unfold Dn
  exact decide_eq_true (h.held e he)
theorem SC {ms : List (Chk × Int)} {p : Nat} {o x : Chk × Int} (hp : ms[p]? = some o) (id : Int) : (BQ (ms.set p x) id : Int) = BQ ms id - (if o.2 = id then 1 else 0) + (if x.2 = id then 1 else 0) := by
 induction ms generalizing p with
 | nil => simp at hp
 | cons a ms ih =>
  match p, hp with
  | 0, hp =>
   simp at hp
   subst hp
   unfold BQ
   simp only [List.set_cons_zero, List.filter_cons]
   by_cases h1 : a.2 = id <;> by_cases h2 : x.2 = id <;> simp [h1, h2] <;> omega
  | p + 1, hp =>
   have := ih (by simpa using hp)
   unfold BQ at this ⊢
   simp only [List.set_cons_succ, List.filter_cons]
   by_cases h1 : a.2 = id <;> simp [h1] <;> omega
def IP (st : List Ent) (f : Int → Int) : Prop := ∀ e ∈ st, e.n = f e.id
theorem PZ {st : List Ent} (h : Bx st) {f : Int → Int} (hf : IP st f) {k : Nat} {x : Ent} (hx : st[k]? = some x) (d : Int) : IP (GF st k d) (fun i => f i + if x.id = i then d else 0) := fun e he => by
 rw [Ec d hx] at he
 have hlt := (List.getElem?_eq_some_iff.1 hx).1
 obtain ⟨q, hq⟩ := List.mem_iff_getElem?.1 he
 by_cases hqk : k = q
 ·subst hqk
  rw [List.getElem?_set_self hlt] at hq
  cases hq
  simp only [if_true]
  rw [hf x (List.mem_of_getElem? hx)]
 ·rw [List.getElem?_set_ne hqk] at hq
  have hm := List.mem_of_getElem? hq
  show e.n = f e.id + (if x.id = e.id then d else 0)
  rw [hf e hm, if_neg (fun hid => ?_)]
  ·omega
  ·rcases Nat.lt_or_ge k q with h' | h'
   ·have := h.up k q x e h' hx hq; omega
   ·have := h.up q k e x (by omega) hq hx; omega
theorem TG {st : List Ent} (h : Bx st) {t : ByteArray} (ht : DX t = true) (h8 : ∀ e ∈ st, e.tx = t → e.n ≠ 8) (hroom : st.length < 64) : (putS st t).2.2 = 0 := by
 rcases Es st t with ⟨e, he, hp⟩ | ⟨k, x, hs, hx, hxs, hx8, hp⟩ | ⟨hs, _, hnt, hl, hp⟩
 ·exfalso
  unfold putS at hp
  rw [EV h, ht, if_neg (by decide)] at hp
  cases hfd : st[Bj st t]? with
  | some e' =>
   rw [hfd] at hp
   simp only at hp
   rw [if_neg (h8 e' (List.mem_of_getElem? hfd) (Je hfd))] at hp
   simp only [Prod.mk.injEq] at hp
   exact he hp.2.2.symm
  | none =>
   rw [hfd] at hp
   simp only at hp
   rw [if_neg (by omega)] at hp
   simp only [Prod.mk.injEq] at hp
   exact he hp.2.2.symm
 ·rw [hp]
 ·rw [hp]
theorem get_mem {st : List Ent} (h : Bx st) {e : Ent} (he : e ∈ st) : Cl st e.id = (e.tx, true) := by
 obtain ⟨k, hk⟩ := List.mem_iff_getElem?.1 he
 exact get_some h hk
theorem TF {st : List Ent} (h : Bx st) {t : ByteArray} {f : Int → Int} (hf : IP st f) (hok : (putS st t).2.2 = 0) (hz : (∀ e ∈ st, e.id ≠ (Bh st : Int)) → f (Bh st) = 0) :
  ∃ st' id, putS st t = (st', id, 0) ∧ Bx st' ∧ IP st' (fun i => f i + if id = i then 1 else 0) ∧ Cl st' id = (t, true) ∧ (∀ x ∈ st, Cl st' x.id = (x.tx, true)) ∧ st'.length ≤ st.length + 1 ∧ ((∀ e ∈ st, e.tx ≠ t) → st'.length = st.length + 1) := by
 have hno : ∀ e ∈ st, e.id ≠ (Bh st : Int) := fun e he hid => by
  obtain ⟨j, hj⟩ := List.mem_iff_getElem?.1 he
  have hsp := Cn st
  rcases Nat.lt_or_ge j (Bh st) with h' | h'
  ·have := hsp.2.1 j e h' hj; omega
  ·have := Gk h h' hj; omega
 obtain ⟨l1, l2, l3⟩ := OW st t hok
 rcases Es st t with ⟨e, he, hp⟩ | ⟨k, x, hs, hx, hxs, hx8, hp⟩ | ⟨hs, _, hnt, hl, hp⟩
 ·rw [hp] at hok; exact absurd hok he
 ·rw [hp] at l1 l2 l3
  simp only at l1 l2 l3
  refine ⟨_, _, hp, Cd l1, PZ h hf hx 1, l2, fun y hy => ?_, by rw [Ni]; omega, fun hc => absurd hxs (hc x (List.mem_of_getElem? hx))⟩
  obtain ⟨y', hy', e1, e2⟩ := Qx (Iy st k 1) hy
  rw [← e1, ← e2]
  exact get_mem (Cd l1) hy'
 ·rw [hp] at l1 l2 l3
  simp only at l1 l2 l3
  have hlen : (JJ st t 1).length = st.length + 1 := by
   unfold JJ
   rw [List.length_append, List.length_take, List.length_cons, List.length_drop]
   have := (Cn st).1
   omega
  refine ⟨_, _, hp, Cd l1, fun e he => ?_, l2, fun y hy => get_mem (Cd l1) (LL.2 (.inl hy)), Nat.le_of_eq hlen, fun _ => hlen⟩
  ·rcases LL.1 he with he | rfl
   ·show e.n = f e.id + (if (Bh st : Int) = e.id then 1 else 0)
    rw [hf e he, if_neg (fun hid => hno e he hid.symm)]; omega
   ·simp only [if_true]
    rw [hz hno]; rfl
theorem Lj {st : List Ent} (h : Bx st) (p : Ent → Bool) : Bx (st.filter p) := by
 have u : st.Pairwise (fun x y => x.id < y.id) := List.pairwise_iff_getElem.2 fun i j hi hj hij => h.up i j _ _ hij (List.getElem?_eq_getElem hi) (List.getElem?_eq_getElem hj)
 have o : st.Pairwise (fun x y => x.tx ≠ y.tx) := List.pairwise_iff_getElem.2 fun i j hi hj hij ht => by
  have := h.one i j _ _ (List.getElem?_eq_getElem hi) (List.getElem?_eq_getElem hj) ht
  omega
 replace u := u.filter p
 replace o := o.filter p
 refine ⟨Nat.le_trans (List.length_filter_le ..) h.len, fun e he => h.ok e (List.mem_filter.1 he).1, fun i j x y hij hx hy => ?_, fun i j x y hx hy ht => ?_⟩
 ·obtain ⟨hi, rfl⟩ := List.getElem?_eq_some_iff.1 hx
  obtain ⟨hj, rfl⟩ := List.getElem?_eq_some_iff.1 hy
  exact List.pairwise_iff_getElem.1 u i j hi hj hij
 ·obtain ⟨hi, rfl⟩ := List.getElem?_eq_some_iff.1 hx
  obtain ⟨hj, rfl⟩ := List.getElem?_eq_some_iff.1 hy
  rcases Nat.lt_trichotomy i j with h' | h' | h'
  ·exact absurd ht (List.pairwise_iff_getElem.1 o i j hi hj h')
  ·exact h'
  ·exact absurd ht.symm (List.pairwise_iff_getElem.1 o j i hj hi h')
theorem XL {st : List Ent} (h : Bx st) {t : ByteArray} (ht : DX t = true) {f : Int → Int} (hf : IP st f) (h8 : ∀ e ∈ st, e.tx = t → e.n ≠ 8) (hz : ∀ i, (∀ e ∈ st, e.id ≠ i) → f i = 0) (hfew : (st.filter fun e => decide (e.n ≠ 0)).length < 64) :
  ∃ st' id, Iw st t = (st', id, 0) ∧ Bx st' ∧ IP st' (fun i => f i + if id = i then 1 else 0) ∧ Cl st' id = (t, true) ∧ (∀ x ∈ st, x.n ≠ 0 → Cl st' x.id = (x.tx, true)) ∧ (st'.length ≤ st.length + 1) ∧ ((∀ e ∈ st, e.tx ≠ t) → st.length < 64 → st'.length = st.length + 1) ∧ ((putS st t).2.2 ≠ 0 → st'.length ≤ (st.filter fun e => decide (e.n ≠ 0)).length + 1) := by
 by_cases hok : (putS st t).2.2 = 0
 ·obtain ⟨st', id, hp, h1, h2, h3, h4, h5, h6⟩ := TF h hf hok (hz _)
  exact ⟨st', id, by unfold Iw; rw [if_pos hok, hp], h1, h2, h3, fun x hx _ => h4 x hx, h5, fun hc _ => h6 hc, fun hc => absurd hok hc⟩
 ·have hs := Lj h (fun e => decide (e.n ≠ 0))
  have hf' : IP (st.filter fun e => decide (e.n ≠ 0)) f := fun e he => hf e (List.mem_filter.1 he).1
  have hok' := TG hs ht (fun e he => h8 e (List.mem_filter.1 he).1) hfew
  obtain ⟨st', id, hp, h1, h2, h3, h4, h5, _⟩ := TF hs hf' hok' fun hn => by
   by_cases he : ∃ e ∈ st, e.id = (Bh (st.filter fun e => decide (e.n ≠ 0)) : Int)
   ·obtain ⟨e, he, hid⟩ := he
    by_cases h0 : e.n = 0
    ·rw [← hid, ← hf e he, h0]
    ·exact absurd hid (hn e (List.mem_filter.2 ⟨he, by simpa using h0⟩))
   ·exact hz _ fun e hm hid => he ⟨e, hm, hid⟩
  refine ⟨st', id, by unfold Iw; rw [if_neg hok, IL h, hp], h1, h2, h3, fun x hx hn => h4 x (List.mem_filter.2 ⟨hx, by simpa using hn⟩), ?_, fun _ hl => absurd (TG h ht h8 hl) hok, fun _ => h5⟩
  have := List.length_filter_le (fun e : Ent => decide (e.n ≠ 0)) st
  omega
theorem We {st : List Ent} (h : Bx st) {f : Int → Int} (hf : IP st f) {x : Ent} (hx : x ∈ st) (hn : x.n ≠ 0) :
  ∃ st', DP st x.id = (st', 0) ∧ Bx st' ∧ IP st' (fun i => f i + if x.id = i then -1 else 0) ∧ (∀ i, Cl st' i = Cl st i) ∧ st'.length = st.length := by
 obtain ⟨k, hk⟩ := List.mem_iff_getElem?.1 hx
 have hr := Ml h hk
 have hs := IQ h hk (d := -1) (by omega)
 exact ⟨_, Qi h hk hn, hs, PZ h hf hk (-1), fun i => Ve h hs (Iy st k (-1)) i, Ni ..⟩
theorem Ou {c : Cfg} {k : Chk} (h : BW c k = true) : 0 ≤ k.t ∧ k.t ≤ 32 := by
 unfold BW BI at h
 rw [Bool.and_eq_true] at h
 obtain ⟨_, _, _, _, _, h0, h1⟩ := Bo h.1
 exact ⟨h0, h1⟩
theorem aX {c : Cfg} {k : Chk} {r m : Int} (h : BW c k = true) (hy : BK r m = true) : BW c ⟨k.ws, k.vs, r, m, k.t⟩ = true := by
 unfold BW BI at h ⊢
 rw [Bool.and_eq_true] at h ⊢
 refine ⟨?_, h.2⟩
 have h1 := h.1
 unfold CT at h1 ⊢
 simp only [Bool.and_eq_true, decide_eq_true_eq] at h1 ⊢
 exact ⟨⟨⟨h1.1.1.1, hy⟩, h1.1.2⟩, h1.2⟩
theorem cI {c : Cfg} {a b : Chk} (ha : BW c a = true) (hb : BW c b = true) (h : BB a = BB b) : a.t = b.t := by
 have la := Jh ha
 have lb := Jh hb
 have hl : a.ws.length = b.ws.length := by omega
 have ga := Ma (Vv a.ws a.vs a.r a.m a.t) (QD la.1)
 have gb := Ma (Vv b.ws b.vs b.r b.m b.t) (QD lb.1)
 unfold BB at h
 rw [h, hl, gb] at ga
 have sa := Ou ha
 have sb := Ou hb
 rw [OK sa.1 (by omega), OK sb.1 (by omega)] at ga
 simp only [Option.some.injEq, V.int.injEq, true_and] at ga
 exact ga.symm
theorem Sz : ∀ (l l' : List Int), l.Nodup → (∀ x ∈ l, x ∈ l') → l.length ≤ l'.length
 | [], _, _, _ => Nat.zero_le _
 | a :: l, l', hn, hs => by
  have ha := hs a (List.mem_cons_self ..)
  have hn' := List.nodup_cons.1 hn
  have := Sz l (l'.erase a) hn'.2 fun x hx => (List.mem_erase_of_ne (fun (h : x = a) => hn'.1 (h ▸ hx))).2 (hs x (List.mem_cons_of_mem _ hx))
  rw [List.length_erase_of_mem ha] at this
  have := List.length_pos_of_mem ha
  simp only [List.length_cons]; omega
theorem Mj {ms : List (Chk × Int)} {m : Chk × Int} (h : m ∈ ms) : 1 ≤ BQ ms m.2 := by
 unfold BQ
 exact List.length_pos_of_mem (List.mem_filter.2 ⟨h, by simp⟩)
theorem Qd {ms : List (Chk × Int)} {id : Int} (h : BQ ms id ≠ 0) : ∃ m ∈ ms, m.2 = id := by
 apply Classical.byContradiction
 intro hc
 exact h (IW fun m hm hid => hc ⟨m, hm, hid⟩)
theorem YX {st : List Ent} (h : Bx st) {ms : List (Chk × Int)} (hh : ∀ e ∈ st, e.n = (BQ ms e.id : Int)) : (st.filter fun e => decide (e.n ≠ 0)).length ≤ ms.length := by
 have hs := Lj h (fun e => decide (e.n ≠ 0))
 have := Sz ((st.filter fun e => decide (e.n ≠ 0)).map (·.id)) (ms.map (·.2)) (by
  refine List.Pairwise.map _ (fun a b (h : a.id < b.id) => by show a.id ≠ b.id; omega) (List.pairwise_iff_getElem.2 fun i j hi hj hij => ?_)
  exact hs.up i j _ _ hij (List.getElem?_eq_getElem hi) (List.getElem?_eq_getElem hj)) (by
  intro x hx
  obtain ⟨e, he, rfl⟩ := List.mem_map.1 hx
  obtain ⟨he, hn⟩ := List.mem_filter.1 he
  obtain ⟨m, hm, hid⟩ := Qd (ms := ms) (id := e.id) (by have := hh e he; simp at hn; omega)
  exact List.mem_map.2 ⟨m, hm, hid⟩)
 simpa using this
theorem kept {s : St} (h : It s) {p : Nat} {o : Chk × Int} (ho : s.ms[p]? = some o) {k : Chk} (hk : BW s.c k = true) (ht : k.t ≠ o.1.t) :
  ∃ st' st2 id, Iw s.st (BB k) = (st', id, 0) ∧ DP st' o.2 = (st2, 0) ∧ Bx st2 ∧ (∀ e ∈ st2, e.n = (BQ (s.ms.set p (k, id)) e.id : Int)) ∧ (∀ m ∈ s.ms.set p (k, id), Cl st2 m.2 = (BB m.1, true)) ∧ st2.length ≤ s.st.length + 1 ∧ ((∀ e ∈ s.st, e.tx ≠ BB k) → s.st.length < 64 → st2.length = s.st.length + 1) ∧ ((putS s.st (BB k)).2.2 ≠ 0 → st2.length ≤ s.ms.length + 1) := by
 obtain ⟨hm, _⟩ := AX h.c
 have hl := h.len
 have hom := List.mem_of_getElem? ho
 have hfew := YX h.st h.held
 obtain ⟨st', id, hp, h1, h2, h3, h4, h5, h7, h6⟩ := XL h.st (Tk hk) (f := fun i => (BQ s.ms i : Int)) h.held
  (fun e he htx h8 => by
   have hn := h.held e he
   rw [h8] at hn
   have hall : ∀ m ∈ s.ms, m.2 = e.id := by
    have hlen : (s.ms.filter fun m => decide (m.2 = e.id)).length = s.ms.length := by
     have := List.length_filter_le (fun m : Chk × Int => decide (m.2 = e.id)) s.ms
     unfold BQ at hn
     omega
    have := List.length_filter_eq_length_iff.1 hlen
    intro m hm'
    simpa using this m hm'
   have hid := hall o hom
   have hg := h.head o hom
   rw [hid, get_mem h.st he] at hg
   have : e.tx = BB o.1 := congrArg Prod.fst hg
   exact ht (cI hk (h.fits o hom) (by rw [← htx, this])))
  (fun i hi => by
   have : BQ s.ms i = 0 := IW fun m hm' hid => by
    obtain ⟨e, he, hid', _⟩ := Hz (h.head m hm')
    exact hi e he (by rw [hid', hid])
   simp [this])
  (by omega)
 obtain ⟨e, he, hid, htx⟩ := Hz (h.head o hom)
 have hpos := Mj hom
 have hen : e.n ≠ 0 := by have := h.held e he; rw [hid] at this; omega
 obtain ⟨y, hy, hyid, _⟩ := Hz (h4 e he hen)
 have hyo : y.id = o.2 := by rw [hyid, hid]
 have hyn : y.n ≠ 0 := by
  have := h2 y hy
  simp only at this
  rw [hyo] at this
  split at this <;> omega
 obtain ⟨st2, hd, d1, d2, d3, d4⟩ := We h1 h2 hy hyn
 rw [hyo] at hd d2
 refine ⟨st', st2, id, hp, hd, d1, fun x hx => ?_, fun m hm' => ?_, by omega, fun hc hl => by have := h7 hc hl; omega, fun hc => by have := h6 hc; omega⟩
 ·rw [SC ho]
  have := d2 x hx
  simp only at this
  rw [this]
  split <;> split <;> omega
 ·rw [d3]
  rcases List.mem_or_eq_of_mem_set hm' with hm' | rfl
  ·obtain ⟨q, hq, hqid, hqt⟩ := Hz (h.head m hm')
   have hqp := Mj hm'
   have hqn : q.n ≠ 0 := by have := h.held q hq; rw [hqid] at this; omega
   have := h4 q hq hqn
   rw [hqid, hqt] at this
   exact this
  ·exact h3
theorem PH {c : Cfg} {id : Int} {k : Chk} (hf : BW c k = true) (ht : k.t < 32) : BW c (Dm c id k) = true := by
 have h1 := Jh hf
 unfold BW BI at hf ⊢
 rw [Bool.and_eq_true] at hf ⊢
 obtain ⟨hvw, hvv, hlv, hl1, hhy, ht0, _⟩ := Bo hf.1
 have l16 := BP hvw
 have e1 : (Dm c id k).ws.length = k.ws.length := by simp [Dm, IC]
 have e2 : (Dm c id k).vs.length = k.ws.length := by simp [Dm, FY]
 have m1 : BF (Dm c id k).ws = true := by
  simp only [BF, Bool.and_eq_true, decide_eq_true_eq, List.all_eq_true]
  refine ⟨by omega, fun b hb => ?_⟩
  simp only [Dm, IC, List.mem_map] at hb
  obtain ⟨j, _, rfl⟩ := hb
  exact JQ _ _
 have m2 : BF (Dm c id k).vs = true := by
  simp only [BF, Bool.and_eq_true, decide_eq_true_eq, List.all_eq_true]
  refine ⟨by omega, fun b hb => ?_⟩
  simp only [Dm, FY, List.mem_map] at hb
  obtain ⟨j, _, rfl⟩ := hb
  exact JQ _ _
 refine ⟨?_, ?_⟩
 ·unfold CT alike
  simp only [List.all_cons, List.all_nil, m1, m2, e1, e2, decide_true, Bool.and_true, Bool.true_and]
  have h2 : BK (Dm c id k).r (Dm c id k).m = true := hhy
  have h3 : (Dm c id k).t = k.t + 1 := rfl
  rw [h2, h3]
  simp only [Bool.and_eq_true, decide_eq_true_eq, and_true]
  omega
 ·have h2 := hf.2
  unfold fits at h2 ⊢
  rw [Bool.and_eq_true, Bool.and_eq_true] at h2 ⊢
  exact ⟨⟨h2.1.1, m1⟩, by rw [e1]; exact h2.2⟩
theorem iG {f : Nat → Int} {n i j c : Nat} (hi : (Cf f n)[i]? = some c) (hj : (Cf f n)[j]? = some c) : i = j := by
 have key : ∀ i j, (Cf f n)[i]? = some c → (Cf f n)[j]? = some c → i < j → False := fun i j hi hj h => by
  obtain ⟨l1, e1⟩ := List.getElem?_eq_some_iff.1 hi
  obtain ⟨l2, e2⟩ := List.getElem?_eq_some_iff.1 hj
  have := List.pairwise_iff_getElem.1 (LW f n) i j l1 l2 h
  rw [e1, e2] at this
  exact Tv f c this
 rcases Nat.lt_trichotomy i j with h | h | h
 ·exact (key i j hi hj h).elim
 ·exact h
 ·exact (key j i hj hi h).elim
theorem YM {ss : List Int} {m : Nat} {c x : Int} (h : (Ew ss (m : Int) c x).2.1 = true) : ∃ d : Nat, (Ew ss (m : Int) c x).1 = (d : Int) ∧ d < ss.length ∧ d ≠ m := by
 unfold Ew at h ⊢
 by_cases hok : Gz ss (m : Int) c x = true
 ·rw [if_pos hok] at h ⊢
  by_cases hm : (m : Int) ∈ EU ss c
  ·rw [if_pos (decide_eq_true hm)]
   unfold Gz at hok
   simp only [Bool.and_eq_true, Bool.not_eq_true', decide_eq_false_iff_not] at hok
   obtain ⟨hr, h1, h2, h3, h4, h5, h6⟩ := hok
   obtain ⟨f1, _, _⟩ := MQ hr
   have f2 : FE ss = Cf (Ak ss) ss.length := by unfold FE; rw [hr]; rfl
   rw [f2]
   unfold EU at hm
   rw [List.mem_map, f2] at hm
   obtain ⟨t, ht, htm⟩ := hm
   obtain ⟨i, hi⟩ := List.mem_iff_getElem?.1 ht
   rw [List.getElem?_drop] at hi
   have htm' : t = m := by omega
   subst htm'
   have hlen : (Cf (Ak ss) ss.length).length = ss.length := GS _ _
   have hlt : x.toNat * c.toNat / 65536 < c.toNat := Nat.div_lt_of_lt_mul (by
    exact Nat.mul_lt_mul_of_pos_right (by omega) (by omega))
   have hlt2 : x.toNat * c.toNat / 65536 < (Cf (Ak ss) ss.length).length := by omega
   refine ⟨_, rfl, (IH (Ak ss) ss.length _).1 ?_, fun hc => ?_⟩
   ·rw [List.getD_eq_getElem?_getD, List.getElem?_eq_getElem hlt2]
    exact List.getElem_mem hlt2
   ·have : (Cf (Ak ss) ss.length)[x.toNat * c.toNat / 65536]? = some t := by
     rw [List.getD_eq_getElem?_getD] at hc
     rw [List.getElem?_eq_getElem hlt2] at hc ⊢
     simpa using hc
    have := iG this hi
    omega
  ·rw [if_neg (by simpa using hm)] at h
   cases h
 ·rw [if_neg hok] at h
  cases h
theorem Nw {es : List Ev} {n : Int} (h : Ap es n = true) : within n 1 8 = true ∧ es.length ≤ 1024 ∧ ∀ (k : Nat) e, es[k]? = some e → Dy (es.take k) n e = true := by
 unfold Ap at h
 simp only [Bool.and_eq_true, decide_eq_true_eq, List.all_eq_true, List.mem_range] at h
 refine ⟨h.1.1, h.1.2, fun k e he => ?_⟩
 have := h.2 k (List.getElem?_eq_some_iff.1 he).1
 rw [he] at this
 exact this
theorem JG {es : List Ev} {n : Int} {e : Ev} (h : Ap es n = true) (hl : es.length < 1024) (he : Dy es n e = true) : Ap (es ++ [e]) n = true := by
 obtain ⟨h1, h2, h3⟩ := Nw h
 refine EP h1 (by simp; omega) fun k x hx => ?_
 by_cases hk : k < es.length
 ·rw [List.getElem?_append_left hk] at hx
  rw [List.take_append_of_le_length (by omega)]
  exact h3 k x hx
 ·have : k = es.length := by have := (List.getElem?_eq_some_iff.1 hx).1; simp at this; omega
  subst this
  simp at hx
  subst hx
  rw [List.take_left]; exact he
theorem PO (es : List Ev) (e : Ev) (m : Int) : explored (es ++ [e]) m = if e.member = m then e.kind == 1 else explored es m := by
 have := Jy (es := es ++ [e]) (m := m) (k := es.length) (e := e) (by simp)
 rw [List.take_of_length_le (by simp), List.take_left] at this
 exact this
theorem Ep {ms : List (Chk × Int)} {p : Nat} {o : Chk × Int} (h : ms[p]? = some o) : DB ms p = o := by
 unfold DB
 rw [List.getD_eq_getElem?_getD, h]; rfl
theorem Dx {s : St} {p : Nat} {o : Chk × Int} (h : s.ms[p]? = some o) : AP s p = Dm s.c p o.1 := by unfold AP; rw [Ep h]
theorem Hg {s : St} {p : Nat} (hp : p < s.ms.length) (q : Nat) : (ms1 s p)[q]? = if q = p then some (AP s p, (DB s.ms p).2) else s.ms[q]? := by
 unfold ms1
 by_cases hq : q = p
 ·subst hq; rw [List.getElem?_set_self hp, if_pos rfl]
 ·rw [List.getElem?_set_ne (Ne.symm hq), if_neg hq]
theorem HW {s : St} (h : It s) {p : Nat} {o : Chk × Int} (ho : s.ms[p]? = some o) (ht : o.1.t ≠ s.c.total) : BW s.c (AP s p) = true ∧ (AP s p).t = o.1.t + 1 ∧ o.1.t + 1 ≤ s.c.total ∧ 0 ≤ o.1.t ∧ s.c.total ≤ 32 := by
 have hom := List.mem_of_getElem? ho
 have h1 := h.tot o hom
 have hf := h.fits o hom
 have hs := Ou hf
 obtain ⟨_, _, _, htot, _⟩ := AX h.c
 rw [Dx ho]
 exact ⟨PH hf (by omega), rfl, by omega, hs.1, htot.2⟩
theorem ON {s : St} (h : It s) {p : Nat} {o : Chk × Int} (ho : s.ms[p]? = some o) (ht : o.1.t ≠ s.c.total) {m : Chk × Int} (hm : m ∈ ms1 s p) : BW s.c m.1 = true := by
 unfold ms1 at hm
 rcases List.mem_or_eq_of_mem_set hm with hm | rfl
 ·exact h.fits m hm
 ·exact (HW h ho ht).1
theorem JA {s : St} {p : Nat} (hp : p < s.ms.length) (ht : DE s p = true) : ∃ d : Nat, (Cg s p).1 = (d : Int) ∧ d < s.ms.length ∧ d ≠ p ∧ s.ms[d]? = some (DB (ms1 s p) d) := by
 unfold DE at ht
 rw [Bool.and_eq_true] at ht
 obtain ⟨d, h1, h2, h3⟩ := YM (show (Cg s p).2.1 = true from ht.2)
 have h2' : d < s.ms.length := by simpa [ms1] using h2
 refine ⟨d, h1, h2', h3, ?_⟩
 have := Hg hp d
 rw [if_neg h3] at this
 rw [← this, Ep (o := s.ms[d]'h2') (by rw [this]; exact List.getElem?_eq_getElem h2'), this]
 exact List.getElem?_eq_getElem h2'
theorem UA (s : St) (p : Nat) : (Ci s p).t = (AP s p).t := by unfold Ci; split <;> rfl
theorem Ls {s : St} (h : It s) {p : Nat} {o : Chk × Int} (ho : s.ms[p]? = some o) (ht : o.1.t ≠ s.c.total) : BW s.c (Ci s p) = true := by
 have hp := (List.getElem?_eq_some_iff.1 ho).1
 obtain ⟨t1, t2, t3, t4, t5⟩ := HW h ho ht
 unfold Ci
 split
 ·rename_i htk
  obtain ⟨d, h1, h2, h3, h4⟩ := JA hp htk
  have hd : Iu s p = (DB (ms1 s p) d).1 := by unfold Iu; rw [h1]; rfl
  have hf := h.fits _ (List.mem_of_getElem? h4)
  rw [← hd] at hf
  have := aX hf (r := (Ek s p).1) (m := (Ek s p).2) (QP ..)
  exact Vj this (t := (AP s p).t) (by omega)
 ·exact t1
theorem aO (s : St) (p : Nat) : (es2 s p).length = s.es.length + (if DE s p = true then 3 else 1) := by
 unfold es2 es1
 split <;> simp
theorem VY {s : St} (h : It s) {p : Nat} {o : Chk × Int} (ho : s.ms[p]? = some o) (hl : s.es.length + 4 ≤ 1024) : Ap (es2 s p) s.c.m = true := by
 have hp := (List.getElem?_eq_some_iff.1 ho).1
 have hlen := h.len
 have e1 : Ap (es1 s p) s.c.m = true := JG h.es (by omega) (by
  simp [Dy, within]; omega)
 unfold es2
 split
 ·rename_i htk
  obtain ⟨d, h1, h2, h3, _⟩ := JA hp htk
  have hl1 : (es1 s p).length = s.es.length + 1 := by simp [es1]
  rw [show es1 s p ++ [⟨1, (p : Int), (Cg s p).1, (BD (es1 s p) (Cg s p).1 : Nat), 0, 0⟩, ⟨2, p, 0, 0, (Ek s p).1, (Ek s p).2⟩] = (es1 s p ++ [⟨1, (p : Int), (Cg s p).1, (BD (es1 s p) (Cg s p).1 : Nat), 0, 0⟩]) ++ [⟨2, p, 0, 0, (Ek s p).1, (Ek s p).2⟩] by simp]
  refine JG (JG e1 (by omega) ?_) (by simp; omega) ?_
  ·rw [Qj rfl]
   simp only [Bool.and_eq_true, within_iff, bne_iff_ne, beq_iff_eq, h1]
   refine ⟨by omega, ⟨⟨by omega, by omega⟩, trivial⟩, ?_⟩
   first | exact ⟨rfl, rfl⟩ | trivial
  ·rw [Qk rfl]
   simp only [Bool.and_eq_true, within_iff, beq_iff_eq, PO, if_pos]
   refine ⟨by omega, ⟨?_, QP ..⟩, ?_⟩ <;> first | trivial | exact ⟨rfl, rfl⟩ | rfl
 ·exact e1
theorem fQ {s : St} (h : It s) {p : Nat} {o : Chk × Int} (ho : s.ms[p]? = some o) (ht : o.1.t ≠ s.c.total) (hl : s.es.length + 4 ≤ 1024) : It (doS s p) ∧ (Iw s.st (BB (Ci s p))).2.2 = 0 ∧ (DP (Iw s.st (BB (Ci s p))).1 o.2).2 = 0 ∧ (st2 s p).length ≤ s.st.length + 1 ∧ ((∀ e ∈ s.st, e.tx ≠ BB (Ci s p)) → s.st.length < 64 → (st2 s p).length = s.st.length + 1) ∧ ((putS s.st (BB (Ci s p))).2.2 ≠ 0 → (st2 s p).length ≤ s.ms.length + 1) := by
 obtain ⟨t1, t2, t3, t4, t5⟩ := HW h ho ht
 have hf := Ls h ho ht
 have hct := UA s p
 obtain ⟨st', st2', id, hp, hd, k1, k2, k3, k4, k6, k5⟩ := kept h ho hf (by omega)
 have eid : GC s p = id := by unfold GC; rw [hp]
 have est : st2 s p = st2' := by unfold st2; rw [hp, Ep ho, hd]
 refine ⟨⟨h.c, ?_, fun m hm => ?_, fun m hm => ?_, VY h ho hl, ?_, fun m hm => ?_, fun e he => ?_⟩, by rw [hp], by rw [hp]; simp only; rw [hd], by rw [est]; exact k4, by rw [est]; exact k6, by rw [est]; exact k5⟩
 ·show ((s.ms.set p (Ci s p, GC s p)).length : Int) = s.c.m
  rw [List.length_set]; exact h.len
 ·rcases List.mem_or_eq_of_mem_set hm with hm | rfl
  ·exact h.fits m hm
  ·exact hf
 ·show m.1.t ≤ s.c.total
  rcases List.mem_or_eq_of_mem_set hm with hm | rfl
  ·exact h.tot m hm
  ·show (Ci s p).t ≤ _
   omega
 ·show Bx (st2 s p)
  rw [est]; exact k1
 ·show Cl (st2 s p) m.2 = _
  rw [est]
  refine k3 m ?_
  rw [← eid]
  exact hm
 ·have he' : e ∈ st2' := by rw [← est]; exact he
  have := k2 e he'
  rw [← eid] at this
  exact this
theorem Rp {m : Int} (h : 2 ≤ m ∧ m ≤ 8) : IntKind.i64.wrap (m - 1) = m - 1 := by rw [wrap_i64] <;> omega
theorem KK {s : St} {pick : Int} (h : Lt s pick = true) : It s ∧ s.es.length + 4 ≤ 1024 ∧ ∃ p : Nat, ∃ o, pick = (p : Int) ∧ s.ms[p]? = some o := by
 unfold Lt at h
 simp only [Bool.and_eq_true, decide_eq_true_eq] at h
 obtain ⟨⟨h1, h2⟩, h3⟩ := h
 have hs := Eh h1
 obtain ⟨hm, _⟩ := AX hs.c
 rw [Rp hm, within_iff] at h2
 have hl := hs.len
 have hp : pick.toNat < s.ms.length := by omega
 exact ⟨hs, h3, pick.toNat, _, by omega, List.getElem?_eq_getElem hp⟩
theorem VT {s : St} (h : It s) {p : Nat} {o : Chk × Int} (ho : s.ms[p]? = some o) (hl : s.es.length + 4 ≤ 1024) : Lt s (p : Int) = true := by
 obtain ⟨hm, _⟩ := AX h.c
 have hlen := h.len
 have hp := (List.getElem?_eq_some_iff.1 ho).1
 unfold Lt
 rw [RL h, Rp hm, within_iff.2 (by omega), decide_eq_true hl]; rfl
structure EN (s : St) (p : Nat) (o : Chk × Int) : Prop where
 ok : It s
 at_ : s.ms[p]? = some o
 t : o.1.t ≠ s.c.total
 room : s.es.length + 4 ≤ 1024
theorem Nr {s : St} {p : Nat} {o : Chk × Int} (h : EN s p o) : doR s (p : Int) = (doS s p, 0) := by
 unfold doR
 rw [if_pos (VT h.ok h.at_ h.room), if_neg (by rw [Int.toNat_natCast, Ep h.at_]; exact h.t), Int.toNat_natCast]
structure dK (s : St) (p : Nat) (o : Chk × Int) (a : St) : Prop where
 may : BZ a = true
 c : a.c = s.c
 len : a.ms.length = s.ms.length
 more : s.es.length < a.es.length ∧ a.es.length ≤ s.es.length + 3
 rest : ∀ i, i ≠ p → a.ms[i]? = s.ms[i]?
 own : ∃ x, a.ms[p]? = some x ∧ x.1.t = o.1.t + 1
 evs : ∀ (i : Nat) e, s.es.length ≤ i → a.es[i]? = some e → e.member = p
 same : a.es.take s.es.length = s.es
 ready : ∀ x, a.ms[p]? = some x → x.1.t.tmod s.c.interval ≠ 0 → a.es.length = s.es.length + 1
 kinds : a.es.length = s.es.length + 1 ∨ (a.es.length = s.es.length + 3 ∧ (∃ e, a.es[s.es.length + 1]? = some e ∧ e.kind = 1) ∧ ∃ e, a.es[s.es.length + 2]? = some e ∧ e.kind = 2)
theorem GP {s : St} {p : Nat} {o : Chk × Int} (h : EN s p o) : dK s p o (doS s p) := by
 have hp := (List.getElem?_eq_some_iff.1 h.at_).1
 obtain ⟨t1, t2, t3, t4, t5⟩ := HW h.ok h.at_ h.t
 have hct := UA s p
 have hl := aO s p
 refine ⟨RL (fQ h.ok h.at_ h.t h.room).1, rfl, by show (s.ms.set p _).length = _; rw [List.length_set], ?_, fun i hi => ?_, ⟨(Ci s p, GC s p), ?_, by show (Ci s p).t = _; omega⟩, fun i e hi he => ?_, ?_, fun x hx hn => ?_, ?_⟩
 ·show s.es.length < (es2 s p).length ∧ (es2 s p).length ≤ _
  rw [hl]; split <;> omega
 ·show (s.ms.set p _)[i]? = _
  rw [List.getElem?_set_ne (Ne.symm hi)]
 ·show (s.ms.set p _)[p]? = _
  rw [List.getElem?_set_self hp]
 ·have he' : (es2 s p)[i]? = some e := he
  unfold es2 es1 at he'
  split at he'
  ·rw [List.append_assoc, List.getElem?_append_right hi] at he'
   have := List.mem_of_getElem? he'
   simp only [List.cons_append, List.nil_append, List.mem_cons, List.not_mem_nil, or_false] at this
   rcases this with rfl | rfl | rfl <;> rfl
  ·rw [List.getElem?_append_right hi] at he'
   have := List.mem_of_getElem? he'
   simp only [List.mem_cons, List.not_mem_nil, or_false] at this
   subst this; rfl
 ·show (es2 s p).take _ = _
  unfold es2 es1
  split
  ·rw [List.append_assoc, List.take_left]
  ·rw [List.take_left]
 ·have hx' : (s.ms.set p (Ci s p, GC s p))[p]? = some x := hx
  rw [List.getElem?_set_self hp] at hx'
  cases hx'
  have hn' : (AP s p).t.tmod s.c.interval ≠ 0 := by rw [← hct]; exact hn
  show (es2 s p).length = _
  rw [hl, if_neg (by unfold DE; rw [decide_eq_false hn']; simp)]
 ·show (es2 s p).length = _ ∨ ((es2 s p).length = _ ∧ (∃ e, (es2 s p)[_]? = _ ∧ _) ∧ ∃ e, (es2 s p)[_]? = _ ∧ _)
  rw [hl]
  by_cases htk : DE s p = true
  ·rw [if_pos htk]
   refine .inr ⟨rfl, ?_, ?_⟩
   ·unfold es2 es1
    rw [if_pos htk, List.append_assoc, List.getElem?_append_right (by omega), show s.es.length + 1 - s.es.length = 1 by omega]
    exact ⟨_, rfl, rfl⟩
   ·unfold es2 es1
    rw [if_pos htk, List.append_assoc, List.getElem?_append_right (by omega), show s.es.length + 2 - s.es.length = 2 by omega]
    exact ⟨_, rfl, rfl⟩
  ·rw [if_neg htk]; exact .inl rfl
theorem SE {s : St} {p : Nat} (h : (AP s p).t.tmod s.c.interval ≠ 0) : doS s p = ⟨s.c, s.ms.set p (AP s p, GC s p), es1 s p, st2 s p⟩ := by
 have : DE s p = false := by unfold DE; rw [decide_eq_false h]; rfl
 unfold doS Ci es2
 rw [if_neg (by rw [this]; decide), if_neg (by rw [this]; decide)]
theorem alone {s : St} (h : It s) {p q : Nat} {o r : Chk × Int} (ho : s.ms[p]? = some o) (hr : s.ms[q]? = some r) (hpq : p ≠ q) (ht : o.1.t ≠ s.c.total) (hu : r.1.t ≠ s.c.total) (h1 : (o.1.t + 1).tmod s.c.interval ≠ 0) (h2 : (r.1.t + 1).tmod s.c.interval ≠ 0) (hl : s.es.length + 8 ≤ 1024) :
  EN s p o ∧ EN (doS s p) q r ∧ (doS (doS s p) q).ms.map (·.1) = (s.ms.set p (Dm s.c p o.1, 0) |>.set q (Dm s.c q r.1, 0)).map (·.1) := by
 have hp : EN s p o := ⟨h, ho, ht, by omega⟩
 have hd := GP hp
 have hr' : (doS s p).ms[q]? = some r := by rw [hd.rest q (Ne.symm hpq)]; exact hr
 have hq : EN (doS s p) q r := ⟨Eh hd.may, hr', by rw [hd.c]; exact hu, by have := hd.more; omega⟩
 refine ⟨hp, hq, ?_⟩
 have e1 := SE (s := s) (p := p) (by rw [Dx ho]; exact h1)
 have e2 := SE (s := doS s p) (p := q) (by rw [Dx hr', hd.c]; exact h2)
 rw [e2]
 simp only [List.map_set, Dx hr', hd.c]
 rw [e1]
 simp only [List.map_set, Dx ho]
def spare (i : Nat) : Ent := ⟨((100 + i : Nat) : Int), strOf [(i : Int)], 0⟩
theorem ZD {c : Cfg} (hc : Al c = true) {p : Nat} (hp : (p : Int) < c.m) : ∃ o, (FX c).ms[p]? = some o ∧ o.1 = CQ c (p : Int) := by
 obtain ⟨hm, _⟩ := AX hc
 obtain ⟨n1, n2, _⟩ := (ML hc c.m.toNat (by omega)).1
 have hl : p < (FX c).ms.length := by
  show p < (newF c c.m.toNat).1.length
  omega
 exact ⟨_, List.getElem?_eq_getElem hl, n2 p _ (List.getElem?_eq_getElem hl)⟩
theorem TE {s : St} {pick : Int} (h : pick < 0 ∨ (s.ms.length : Int) ≤ pick) : doR s pick = (DN, 2300) := by
 unfold doR
 rw [if_neg (fun hok => ?_)]
 obtain ⟨_, _, p, o, rfl, ho⟩ := KK hok
 have := (List.getElem?_eq_some_iff.1 ho).1
 omega
theorem NN {s : St} (h : It s) {p : Nat} {o : Chk × Int} (ho : s.ms[p]? = some o) (ht : o.1.t = s.c.total) (hl : s.es.length + 4 ≤ 1024) : doR s (p : Int) = (DN, 2301) := by
 unfold doR
 rw [if_pos (VT h ho hl), if_pos (by rw [Int.toNat_natCast, Ep ho]; exact ht)]
def pack (L : List Res) : Fact where
 S c := ∃ r ∈ L, r.Js c
 p H := (∀ r ∈ L, r.ok H) ∧ L.Pairwise fun (r s : Res) => ∀ c : Nat, r.Js c → ¬ s.Js c
 st H H' h hf := ⟨fun r hr => Res.ZI (h.1 r hr) fun c hc => hf c ⟨r, hr, hc⟩, h.2⟩
 lt H c h hc := by
  obtain ⟨r, hr, hc⟩ := hc
  exact Res.QA (h.1 r hr) hc
theorem Mem.packed {B H : Heap} {L M : List Res} (h : Mem B H (L ++ M)) : Mem B H (.ro (pack L) :: M) := by
 obtain ⟨s1, s2, s3⟩ := List.pairwise_append.1 h.sep
 refine ⟨h.pre, fun r hr => ?_, fun r hr c hc => ?_, List.pairwise_cons.2 ⟨fun s hs c hc hc2 => ?_, s2⟩⟩
 ·rcases List.mem_cons.1 hr with rfl | hr
  ·exact ⟨fun r hr => h.ok r (List.mem_append_left _ hr), s1⟩
  ·exact h.ok r (List.mem_append_right _ hr)
 ·rcases List.mem_cons.1 hr with rfl | hr
  ·obtain ⟨r, hr, hc⟩ := hc
   exact h.low r (List.mem_append_left _ hr) c hc
  ·exact h.low r (List.mem_append_right _ hr) c hc
 ·obtain ⟨r, hr, hc⟩ := hc
  exact s3 r hr s hs c hc hc2
theorem Mem.Fu {B H : Heap} {L M : List Res} (h : Mem B H (.ro (pack L) :: M)) : Mem B H (L ++ M) := by
 have h0 : (pack L).p H := h.ok _ List.mem_cons_self
 obtain ⟨s1, s2⟩ := List.pairwise_cons.1 h.sep
 refine ⟨h.pre, fun r hr => ?_, fun r hr c hc => ?_, List.pairwise_append.2 ⟨h0.2, s2, fun r hr s hs c hc hc2 => s1 s hs c ⟨r, hr, hc⟩ hc2⟩⟩
 ·rcases List.mem_append.1 hr with hr | hr
  ·exact h0.1 r hr
  ·exact h.ok r (List.mem_cons_of_mem _ hr)
 ·rcases List.mem_append.1 hr with hr | hr
  ·exact h.low (.ro (pack L)) List.mem_cons_self c ⟨r, hr, hc⟩
  ·exact h.low r (List.mem_cons_of_mem _ hr) c hc
theorem IE {H : Heap} {L : List Res} (h : (pack L).p H) : Mem [] H L := ⟨List.nil_prefix, h.1, fun _ _ _ _ => Nat.zero_le _, h.2⟩
theorem Has.nth : ∀ {L : List Res} {k : Nat} {r : Res}, L[k]? = some r → Has L r (fun x => L.set k x)
 | [], k, r, h => by simp at h
 | s :: L, 0, r, h => by simp at h; subst h; exact .here
 | s :: L, k + 1, r, h => .there (Has.nth (by simpa using h))
theorem Has.app {L M : List Res} {r : Res} {f : Res → List Res} (h : Has L r f) : Has (L ++ M) r (fun x => f x ++ M) := by
 induction h with
 | here => exact .here
 | there h ih => exact .there ih
def Dq (rv : List (V × Int)) (rs : List (List Int × Int)) : List Res := List.zipWith (fun p r => Res.own 1 AH p.1 r.1) rv rs
def Bl (u : V) (rv : List (V × Int)) (rs : List (List Int × Int)) : List Res := .own 2 Dg u rv :: Dq rv rs
def Jr (rv : List (V × Int)) (rs : List (List Int × Int)) : Prop := rv.length = rs.length ∧ ∀ (k : Nat) p r, rv[k]? = some p → rs[k]? = some r → p.2 = r.2
theorem Xb {rv : List (V × Int)} {rs : List (List Int × Int)} {k : Nat} {p : V × Int} {r : List Int × Int} (hp : rv[k]? = some p) (hr : rs[k]? = some r) : (Dq rv rs)[k]? = some (.own 1 AH p.1 r.1) := by
 unfold Dq
 rw [List.getElem?_zipWith, hp, hr]
theorem DL {H : Heap} {u : V} {rv : List (V × Int)} {rs : List (List Int × Int)} (h : (pack (Bl u rv rs)).p H) (hl : Jr rv rs) : Rows H u rs := by
 have hm := IE h
 refine ⟨rv, hm.sl .here, hl.1, fun k p r hp hr => ⟨hm.sl (.there (Has.nth (Xb hp hr))), hl.2 k p r hp hr⟩⟩
def turnK (c : Cfg) (e : Ev) (k d : Option Chk) : Option Chk := match k with
 | none => none
 | some k =>
  if e.kind = 0 then (if (Cs c e.member k).2 = 0 then some (Cs c e.member k).1 else none)
  else if e.kind = 1 then (match d with
   | none => none
   | some d => some ⟨d.ws, d.vs, d.r, d.m, k.t⟩)
  else some ⟨k.ws, k.vs, e.rate, e.mom, k.t⟩
abbrev QV := List (List (Option Chk))
def Ju (H : QV) (m : Int) : List (Option Chk) := H.getD m.toNat []
def Fz (H : QV) (m : Int) : Option Chk := ((Ju H m)[(Ju H m).length - 1]?).join
def Qh (H : QV) (e : Ev) : Option Chk := if e.kind = 1 then ((Ju H e.BV)[e.at_.toNat]?).join else none
def Ov (c : Cfg) (H : QV) (e : Ev) : QV := H.set e.member.toNat (Ju H e.member ++ [turnK c e (Fz H e.member) (Qh H e)])
def Kg (c : Cfg) : QV := (List.range c.m.toNat).map fun (i : Nat) => [some (Bq c (i : Int))]
def Ce (c : Cfg) (es : List Ev) : QV := es.foldl (Ov c) (Kg c)
theorem KQ {c : Cfg} {es : List Ev} {k : Nat} {e : Ev} (he : es[k]? = some e) : Ce c (es.take (k + 1)) = Ov c (Ce c (es.take k)) e := by
 unfold Ce
 rw [List.take_add_one, he, List.foldl_append]; rfl
theorem DU {es : List Ev} {n : Int} (h : Ap es n = true) : (1 ≤ n ∧ n ≤ 8) ∧ es.length ≤ 1024 ∧ ∀ (k : Nat) e, es[k]? = some e → Dy (es.take k) n e = true := by
 unfold Ap at h
 simp only [Bool.and_eq_true, decide_eq_true_eq, List.all_eq_true, List.mem_range] at h
 obtain ⟨⟨h1, h2⟩, h3⟩ := h
 refine ⟨within_iff.1 h1, h2, fun k e he => ?_⟩
 have := h3 k (List.getElem?_eq_some_iff.1 he).1
 rw [he] at this
 exact this
theorem JF {es : List Ev} {n : Int} (h : Ap es n = true) (k : Nat) : Ap (es.take k) n = true := by
 obtain ⟨h1, h2, h3⟩ := DU h
 refine EP (within_iff.2 h1) (by rw [List.length_take]; omega) fun j e he => ?_
 rw [List.getElem?_take] at he
 by_cases hj : j < k
 ·rw [if_pos hj] at he
  rw [List.take_take, Nat.min_eq_left (by omega)]
  exact h3 j e he
 ·rw [if_neg hj] at he; cases he
theorem JE {es : List Ev} {n : Int} {e : Ev} (h : Dy es n e = true) : (0 ≤ e.member ∧ e.member < n) ∧ (e.kind = 1 → (0 ≤ e.BV ∧ e.BV < n) ∧ e.BV ≠ e.member ∧ e.at_ = (BD es e.BV : Int)) ∧ (e.kind = 0 ∨ e.kind = 1 ∨ e.kind = 2) ∧ (e.kind = 2 → BK e.rate e.mom = true) := by
 unfold Dy at h
 rw [Bool.and_eq_true, within_iff] at h
 refine ⟨⟨h.1.1, by omega⟩, fun hk => ?_, ?_, fun hk => ?_⟩
 ·have h2 := h.2
  rw [if_neg (by omega), if_pos hk] at h2
  simp only [Bool.and_eq_true, within_iff, bne_iff_ne, ne_eq, beq_iff_eq] at h2
  exact ⟨⟨h2.1.1.1.1, by omega⟩, h2.1.1.2, h2.1.2⟩
 ·have h2 := h.2
  by_cases h0 : e.kind = 0
  ·exact .inl h0
  ·by_cases h1 : e.kind = 1
   ·exact .inr (.inl h1)
   ·by_cases h3 : e.kind = 2
    ·exact .inr (.inr h3)
    ·rw [if_neg h0, if_neg h1, if_neg h3] at h2; cases h2
 ·have h2 := h.2
  rw [if_neg (by omega), if_neg (by omega), if_pos hk] at h2
  simp only [Bool.and_eq_true] at h2
  exact h2.1.2
structure dH (c : Cfg) (es : List Ev) (H : QV) : Prop where
 len : H.length = c.m.toNat
 row : ∀ m, 0 ≤ m → m < c.m → (Ju H m).length = BD es m + 1
theorem Od {H : QV} {a b : Int} {x : List (Option Chk)} (ha : 0 ≤ a ∧ a.toNat < H.length) (hb : 0 ≤ b) : Ju (H.set a.toNat x) b = if b = a then x else Ju H b := by
 unfold Ju
 rw [List.getD_eq_getElem?_getD, List.getD_eq_getElem?_getD, List.getElem?_set]
 by_cases h : b = a
 ·subst h
  rw [if_pos rfl, if_pos ha.2, if_pos rfl]; rfl
 ·rw [if_neg (by omega), if_neg h]
theorem Kh {c : Cfg} {m : Int} (h0 : 0 ≤ m) (h : m < c.m) : Ju (Kg c) m = [some (Bq c m)] := by
 unfold Ju Kg
 rw [List.getD_eq_getElem?_getD, List.getElem?_map, List.getElem?_range (by omega)]
 simp only [Option.map_some, Option.getD_some]
 rw [show ((m.toNat : Nat) : Int) = m by omega]
theorem LH {c : Cfg} {es : List Ev} (hm : Ap es c.m = true) : ∀ k, k ≤ es.length → dH c (es.take k) (Ce c (es.take k))
 | 0, _ => by
  refine ⟨by simp [Ce, Kg], fun m h0 h => ?_⟩
  have : Ce c (es.take 0) = Kg c := rfl
  rw [this, Kh h0 h]; rfl
 | k + 1, hk => by
  obtain ⟨h1, h2⟩ := LH (c := c) hm k (by omega)
  have he : es[k]? = some (es[k]'(by omega)) := by simp
  generalize es[k]'(by omega) = e at he
  obtain ⟨hmb, _⟩ := JE ((DU hm).2.2 k e he)
  rw [KQ he]
  refine ⟨by unfold Ov; rw [List.length_set, h1], fun m h0 h => ?_⟩
  unfold Ov
  rw [Od ⟨hmb.1, by omega⟩ h0, Fi he]
  by_cases hme : m = e.member
  ·subst hme
   rw [if_pos rfl, if_pos rfl, List.length_append, h2 _ hmb.1 hmb.2]; rfl
  ·rw [if_neg hme, if_neg (fun h => hme h.symm), h2 m h0 h, Nat.add_zero]
theorem Py {c : Cfg} {es : List Ev} (hm : Ap es c.m = true) {k : Nat} {e : Ev} (he : es[k]? = some e) {m : Int} (h0 : 0 ≤ m) (h : m < c.m) :
  Fz (Ce c (es.take (k + 1))) m = if m = e.member then turnK c e (Fz (Ce c (es.take k)) e.member) (if e.kind = 1 then Fz (Ce c (es.take k)) e.BV else none) else Fz (Ce c (es.take k)) m := by
 have hk := (List.getElem?_eq_some_iff.1 he).1
 obtain ⟨h1, h2⟩ := LH (c := c) hm k (by omega)
 obtain ⟨hmb, hd, _⟩ := JE ((DU hm).2.2 k e he)
 rw [KQ he]
 have hrow := Od (H := Ce c (es.take k)) (a := e.member) (b := m) (x := Ju (Ce c (es.take k)) e.member ++ [turnK c e (Fz (Ce c (es.take k)) e.member) (Qh (Ce c (es.take k)) e)]) ⟨hmb.1, by omega⟩ h0
 have hdon : Qh (Ce c (es.take k)) e = if e.kind = 1 then Fz (Ce c (es.take k)) e.BV else none := by
  unfold Qh
  by_cases hk1 : e.kind = 1
  ·rw [if_pos hk1, if_pos hk1]
   obtain ⟨hdi, _, hat⟩ := hd hk1
   unfold Fz
   rw [h2 _ hdi.1 hdi.2, hat]; rfl
  ·rw [if_neg hk1, if_neg hk1]
 by_cases hme : m = e.member
 ·subst hme
  rw [if_pos rfl] at hrow ⊢
  unfold Ov
  rw [← hdon]
  unfold Fz at hrow ⊢
  rw [hrow, List.length_append, List.length_singleton, Nat.add_sub_cancel, List.getElem?_append_right (Nat.le_refl _), Nat.sub_self]
  rfl
 ·rw [if_neg hme] at hrow ⊢
  unfold Ov
  show ((Ju _ m)[(Ju _ m).length - 1]?).join = _
  rw [hrow]; rfl
structure Pa where
 w : V
 v : V
 k : Chk
 n : Int
 bad : Bool
def Mq (w v : V) (ws vs : List Int) : Res := .ro (pack [.own 1 AH w ws, .own 1 AH v vs])
def Kb (p : Pa) : Res := Mq p.w p.v p.k.ws p.k.vs
def paths (ps : List Pa) : List Res := ps.map Kb
theorem Si {H : Heap} {w v : V} {k : Chk} (h : (Mq w v k.ws k.vs).ok H) : KAt H w v k := by
 have hm := IE (show (pack [.own 1 AH w k.ws, .own 1 AH v k.vs]).p H from h)
 exact ⟨hm.sl .here, hm.sl (.there .here)⟩
theorem Mem.Vx {B H : Heap} {r s : Res} {M : List Res} (h : Mem B H (r :: s :: M)) : Mem B H (.ro (pack [r, s]) :: M) := Mem.packed (L := [r, s]) h
theorem Mem.ZZ {B H : Heap} {L M : List Res} {r : Res} (h : Mem B H (.ro (pack L) :: r :: M)) (i : Nat) (hi : i < L.length) : Mem B H (.ro (pack (L.set i r)) :: M) := by
 refine Mem.packed ?_
 have h1 := h.Fu
 have e : L = L.take i ++ L[i] :: L.drop (i + 1) := by rw [← List.drop_eq_getElem_cons hi, List.take_append_drop]
 have e2 : L.set i r = L.take i ++ r :: L.drop (i + 1) := by rw [List.set_eq_take_append_cons_drop, if_pos hi]
 rw [e2]
 rw [e] at h1
 have h2 : Mem B H (L.take i ++ (L.drop (i + 1) ++ r :: M)) := h1.sub (by
  rw [List.append_assoc]
  exact List.Sublist.append (List.Sublist.refl _) (List.sublist_cons_self _ _))
 refine h2.perm ?_
 rw [List.append_assoc]
 refine List.Perm.append (.refl _) ?_
 exact (List.perm_middle).trans (.refl _)
theorem KG (H : Heap) (v : V) (xs : List Int) (hx : Sl 1 AH H v xs) (hl : xs.length * 8 ≤ 2 ^ 47) : ∃ w H', Call Tryz.prog 153 [v] H w H' ∧ Mem H H' [.own 1 AH w xs] := by
 refine Ao fit mixed Tryz.func153 rfl rfl rfl (by kernel_rfl) fun hM => ?_
 rcases hx with ⟨rfl, rfl⟩ | ⟨b, off, cap, t, cs, wr, rfl, h1, h2, h3, h4⟩
 ·refine goM ?_
  exact AY (hM.nil 1 AH)
 ·have hx : Sl 1 AH H (.slc b off xs.length cap t 1) xs := .inr ⟨b, off, cap, t, cs, wr, rfl, h1, h2, h3, h4⟩
  clear h1 h2 h3 h4
  refine goM ?_
  refine Aa AH [] [] T27 rfl T3 rfl (Ba []) (by decide) fun e1 H3 hM => ?_
  refine goM ?_
  refine Bg (hx.mono hM.pre) (xs := []) (hb := by simp only [List.length_nil]; omega) fun a H4 hM => ?_
  refine goM ?_
  exact AY hM
theorem KF (H : Heap) (w v : V) (k : Chk) (hk : KAt H w v k) (hf : k.Fit) : ∃ u H', Call Tryz.prog 148 [.agg (kC w v k)] H u H' ∧ ∃ a b, u = .agg (kC a b k) ∧ Mem H H' [.own 1 AH b k.vs, .own 1 AH a k.ws] := by
 have l1 := hf.ws
 have l2 := hf.vs
 have s1 := hk.ws.cells
 have s2 := hk.vs.cells
 refine Ao fit mixed Tryz.func148 rfl rfl rfl (by kernel_rfl) fun hM => ?_
 refine AO (AK ?_)
 refine Ax T82 fun b1 H1 hM => ?_
 refine Aj (cs := Ay) T82 rfl fun b2 H2 hM => ?_
 refine goM ?_
 obtain ⟨a, H3, c1, m1⟩ := KG H2 w k.ws (hk.ws.mono hM.pre) (by omega)
 refine Be c1 (.inl m1.pre) ?_
 replace hM := hM.BH m1
 have s3 := (hM.sl .here).cells
 refine goM ?_
 obtain ⟨b, H4, c2, m2⟩ := KG H3 v k.vs (hk.vs.mono hM.pre) (by omega)
 refine Be c2 (.inl m2.pre) ?_
 replace hM := hM.BH m2
 have s4 := (hM.sl .here).cells
 clear c1 c2 m1 m2
 refine goM ?_
 refine DT T27 fun H5 hM => ?_
 refine goM ?_
 refine DT T27 fun H6 hM => ?_
 refine goM ?_
 refine AM T82 fun H7 hM => ?_
 refine goM ?_
 exact AY ⟨a, b, rfl, hM.Ea⟩
theorem JL {H : Heap} {b o sz : Nat} {cs : List V} (h : H.loadN b o sz = some cs) {j n : Nat} (hj : j + n ≤ sz) : H.loadN b (o + j) n = some ((cs.drop j).take n) := by
 unfold Heap.loadN at h ⊢
 cases hb : H[b]? with
 | none => rw [hb] at h; cases h
 | some k =>
  rw [hb] at h
  cases k with
  | row ds w =>
   simp only at h ⊢
   split at h
   ·rename_i hl
    cases h
    rw [if_pos (by omega), List.drop_take, List.take_take, List.drop_drop, Nat.min_eq_left (by omega)]
   ·cases h
  | _ => cases h
theorem many (H : Heap) (v : V) (es : List Ev) (m : Int) (hes : Sl 6 evC H v es) (hl : es.length ≤ 2 ^ 47) : Call Tryz.prog 91 [v, .int .i64 m] H (.int .i64 (BD es m)) H := by
 refine AJ fit mixed Tryz.func91 rfl rfl rfl (by kernel_rfl) rfl ?_
 have hlen := hes.len T29 rfl
 refine goW ?_
 refine AT (fun c ρ h => ∃ k, k ≤ es.length ∧ c = es.length - k ∧ H <+: h ∧ ρ 0 = v ∧ ρ 1 = .int .i64 m ∧ ρ 8 = v ∧ ρ 9 = .int .i64 es.length ∧ ρ 10 = .int .i64 (k : Nat) ∧ ρ 5 = .int .i64 (BD (es.take k) m)) ⟨0, Nat.zero_le _, rfl, List.prefix_refl _, rfl, rfl, rfl, rfl, rfl, rfl⟩ ?_
 rintro _ ρ h ⟨k, hk, rfl, hp, h0, h1, h8, h9, h10, h5⟩
 refine goW ?_
 refine AE (fun hb => ?_) (fun hb => ?_)
 ·have hk' : k < es.length := by simpa using hb
  obtain ⟨e, he⟩ : ∃ e, es[k]? = some e := ⟨es[k], by simp [hk']⟩
  obtain ⟨b, o, cs, hi, rfl, _, hlo, hlc⟩ := (hes.mono hp).get T29 rfl GY rfl he
  have ho := AZ GY rfl hlo
  have hle := Ji (es.take k) m
  rw [List.length_take] at hle
  have hw := AG (n := k) (by omega)
  have hw2 := AG (n := BD (es.take k) m) (by omega)
  have hs := Fi (m := m) he
  refine goW ?_
  refine AE (fun hc => ?_) (fun hc => ?_)
  all_goals refine goW ?_
  all_goals refine ⟨es.length - (k + 1), by omega, k + 1, hk', rfl, hp.trans (List.prefix_append ..), ?_⟩
  all_goals simp at hc
  all_goals simp [AD, AB, *]
 ·have hk' : k = es.length := by have : ¬ k < es.length := by simpa using hb
                                 omega
  subst hk'
  refine goW ?_
  refine AL (by simp only [resRf, resRs, resR]; first | done | rfl) ⟨?_, hp⟩
  simp [AD, AB, *]
end Go.Proofs.YtncjbjlmgnjhiaaGreat.VM
