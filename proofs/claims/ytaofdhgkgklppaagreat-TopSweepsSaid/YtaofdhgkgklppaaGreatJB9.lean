/- Joined texts: TrainH, EvP, CtlP, RankA, RankB, RankC, ChoiceA, StepP, StepQ, TrainP, StepR, StepS. -/
import Derived.Test.YtaofdhgkgklppaaGreatJB3
import Derived.Test.YtaofdhgkgklppaaGreatJB4
import Derived.Test.YtaofdhgkgklppaaGreatJB7
import Derived.Test.YtaofdhgkgklppaaGreatJB8
namespace Go.Proofs.YtaofdhgkgklppaaGreat.VM
open Go
set_option linter.unusedVariables false
set_option linter.unusedSimpArgs false
attribute [local irreducible] wq wqL wqD wqE wqO Th Bk EndR
set_option maxHeartbeats 8000000
def Chk.more (k : Chk) : Chk := { k with ws := k.ws ++ [1], vs := k.vs ++ [1] }
theorem kFits_len {c : Cfg} {k : Chk} (h : kFits c k = true) : k.vs.length = k.ws.length ∧ 1 ≤ k.ws.length ∧ (k.ws.length : Int) = c.h * (c.i + 1) + c.h + 1 := by
 unfold kFits memFits at h
 rw [Bool.and_eq_true] at h
 obtain ⟨_, _, l, l1, _⟩ := chkMay_split h.1
 obtain ⟨_, _, i', h', hi', hh', _, _, _, _, hsz⟩ := fits_split h.2
 refine ⟨l, l1, ?_⟩
 rw [hsz, hi', hh', ← size_cast]
theorem more_fit {c : Cfg} {k : Chk} (h : kFits c k = true) : k.more.Fit ∧ k.ws.length ≤ 16 ∧ k.vs.length ≤ 16 := by
 unfold kFits memFits at h
 rw [Bool.and_eq_true] at h
 obtain ⟨a, b, l, _⟩ := chkMay_split h.1
 have := vecMay_len a
 have := vecMay_len b
 exact ⟨⟨by simp only [Chk.more, List.length_append, List.length_cons, List.length_nil]; omega, by simp only [Chk.more, List.length_append, List.length_cons, List.length_nil]; omega⟩, by omega, by omega⟩
structure Ev where
 kind : Int
 member : Int
 donor : Int
 at_ : Int
 rate : Int
 mom : Int
 deriving DecidableEq, Inhabited
def Ev.cells (e : Ev) : List V := [.int .i64 e.kind, .int .i64 e.member, .int .i64 e.donor, .int .i64 e.at_, .int .i64 e.rate, .int .i64 e.mom]
def evC (cs : List V) (e : Ev) : Prop := cs = [.int .i64 e.kind, .int .i64 e.member, .int .i64 e.donor, .int .i64 e.at_, .int .i64 e.rate, .int .i64 e.mom]
def manyOf (es : List Ev) (m : Int) : Nat := (es.filter fun e => e.member == m).length
theorem manyOf_succ {es : List Ev} {m : Int} {k : Nat} {e : Ev} (he : es[k]? = some e) : manyOf (es.take (k + 1)) m = manyOf (es.take k) m + if e.member = m then 1 else 0 := by
 unfold manyOf
 rw [List.take_add_one, he, List.filter_append, List.length_append]
 simp only [Option.toList_some, List.filter_cons, List.filter_nil]
 by_cases h : e.member = m <;> simp [h]
theorem manyOf_le (es : List Ev) (m : Int) : manyOf es m ≤ es.length := List.length_filter_le ..
theorem ev_eq (a b : Ev) : (a.kind == b.kind && (a.member == b.member && (a.donor == b.donor && (a.at_ == b.at_ && (a.rate == b.rate && (a.mom == b.mom && true)))))) = decide (a = b) := by
 obtain ⟨_, _, _, _, _, _⟩ := a
 obtain ⟨_, _, _, _, _, _⟩ := b
 apply Bool.eq_iff_iff.2
 simp [Ev.mk.injEq]
theorem take_succ_eq {α : Type} {xs ys : List α} {k : Nat} {x y : α} (h : xs.take k = ys.take k) (hx : xs[k]? = some x) (hy : ys[k]? = some y) (e : x = y) : xs.take (k + 1) = ys.take (k + 1) := by
 rw [List.take_add_one, List.take_add_one, h, hx, hy, e]
def explored (es : List Ev) (m : Int) : Bool :=
 match es.reverse.find? fun e => e.member == m with
 | some e => e.kind == 1
 | none => false
theorem explored_succ {es : List Ev} {m : Int} {k : Nat} {e : Ev} (he : es[k]? = some e) : explored (es.take (k + 1)) m = if e.member = m then e.kind == 1 else explored (es.take k) m := by
 unfold explored
 rw [List.take_add_one, he]
 simp only [Option.toList_some, List.reverse_append, List.reverse_cons, List.reverse_nil, List.nil_append, List.cons_append, List.find?_cons]
 by_cases h : e.member = m
 ·simp [h]
 ·rw [if_neg h]
  have : (e.member == m) = false := by simpa using h
  rw [this]
def evMay (es : List Ev) (n : Int) (e : Ev) : Bool :=
 within e.member 0 (n - 1) &&
 (if e.kind = 0 then e.donor == 0 && e.at_ == 0 && (e.rate == 0 && e.mom == 0)
  else if e.kind = 1 then within e.donor 0 (n - 1) && e.donor != e.member && e.at_ == (manyOf es e.donor : Int) && (e.rate == 0 && e.mom == 0)
  else if e.kind = 2 then e.donor == 0 && e.at_ == 0 && hyperMay e.rate e.mom && explored es e.member
  else false)
def eventsMay (es : List Ev) (n : Int) : Bool :=
 within n 1 8 && decide (es.length ≤ 1024) && (List.range es.length).all fun k => match es[k]? with | some e => evMay (es.take k) n e | none => true
theorem eventsMay_no {es : List Ev} {n : Int} {k : Nat} {e : Ev} (he : es[k]? = some e) (h : evMay (es.take k) n e = false) : eventsMay es n = false := by
 have hk : k < es.length := (List.getElem?_eq_some_iff.1 he).1
 unfold eventsMay
 rw [Bool.and_eq_false_iff]
 right
 rw [List.all_eq_false]
 exact ⟨k, by simp [hk], by simp [he, h]⟩
theorem eventsMay_yes {es : List Ev} {n : Int} (hn : within n 1 8 = true) (hl : es.length ≤ 1024) (h : ∀ (k : Nat) e, es[k]? = some e → evMay (es.take k) n e = true) : eventsMay es n = true := by
 unfold eventsMay
 simp only [hn, hl, decide_true, Bool.true_and, List.all_eq_true, List.mem_range]
 intro k hk
 have : es[k]? = some es[k] := by simp [hk]
 rw [this]
 exact h k _ this
theorem all_succ {es : List Ev} {p : Nat → Ev → Prop} {k : Nat} {e0 : Ev} (hall : ∀ (j : Nat) e, j < k → es[j]? = some e → p j e) (he : es[k]? = some e0) (h : p k e0) : ∀ (j : Nat) e, j < k + 1 → es[j]? = some e → p j e := fun j e hj hje => by
 by_cases hjk : j = k
 ·subst hjk; rw [he] at hje; cases hje; exact h
 ·exact hall j e (by omega) hje
theorem no_more {es : List Ev} {n : Int} {k : Nat} {e : Ev} {H h' : Heap} {v' : V} (he : es[k]? = some e) (e1 : v' = .bool false) (e2 : evMay (es.take k) n e = false) (e3 : H <+: h') : v' = .bool (eventsMay es n) ∧ H <+: h' := ⟨by rw [e1, eventsMay_no he e2], e3⟩
theorem evMay_0 {es : List Ev} {n : Int} {e : Ev} (h : e.kind = 0) : evMay es n e = (within e.member 0 (n - 1) && (e.donor == 0 && e.at_ == 0 && (e.rate == 0 && e.mom == 0))) := by simp [evMay, h]
theorem evMay_1 {es : List Ev} {n : Int} {e : Ev} (h : e.kind = 1) : evMay es n e = (within e.member 0 (n - 1) && (within e.donor 0 (n - 1) && e.donor != e.member && e.at_ == (manyOf es e.donor : Int) && (e.rate == 0 && e.mom == 0))) := by simp [evMay, h]
theorem evMay_2 {es : List Ev} {n : Int} {e : Ev} (h : e.kind = 2) : evMay es n e = (within e.member 0 (n - 1) && (e.donor == 0 && e.at_ == 0 && hyperMay e.rate e.mom && explored es e.member)) := by simp [evMay, h]
theorem evMay_3 {es : List Ev} {n : Int} {e : Ev} (h0 : e.kind ≠ 0) (h1 : e.kind ≠ 1) (h2 : e.kind ≠ 2) : evMay es n e = false := by simp [evMay, h0, h1, h2]
def lastKind (es : List Ev) (m : Int) : Int :=
 match es.reverse.find? fun e => e.member == m with
 | some e => e.kind
 | none => 0
theorem lastKind_snoc (es : List Ev) (e : Ev) (m : Int) : lastKind (es ++ [e]) m = if e.member = m then e.kind else lastKind es m := by
 unfold lastKind
 simp only [List.reverse_append, List.reverse_cons, List.reverse_nil, List.nil_append, List.cons_append, List.find?_cons]
 by_cases h : e.member = m
 ·simp [h]
 ·rw [if_neg h]
  have : (e.member == m) = false := by simpa using h
  rw [this]
theorem manyOf_snoc (es : List Ev) (e : Ev) (m : Int) : manyOf (es ++ [e]) m = manyOf es m + if e.member = m then 1 else 0 := by
 unfold manyOf
 rw [List.filter_append, List.length_append]
 by_cases h : e.member = m <;> simp [h]
theorem explored_last (es : List Ev) (m : Int) : explored es m = (decide ((manyOf es m : Int) > 0) && lastKind es m == 1) := by
 unfold explored lastKind manyOf
 cases h : es.reverse.find? fun e => e.member == m with
 | none => simp
 | some e =>
  have h1 := List.find?_some h
  have h2 := List.mem_of_find?_eq_some h
  have : 0 < (es.filter fun e => e.member == m).length := by
   apply List.length_pos_iff_exists_mem.2
   exact ⟨e, by simp [List.mem_filter]; exact ⟨by simpa using h2, by simpa using h1⟩⟩
  simp only [this, decide_true, Bool.true_and, Int.natCast_pos, gt_iff_lt]
structure St where
 c : Cfg
 ms : List (Chk × Int)
 es : List Ev
 st : List Ent
def noCfg : Cfg := ⟨0, 0, 0, [], 0, 0, 0, 0, false⟩
def noSt : St := ⟨noCfg, [], [], []⟩
def textK (k : Chk) : ByteArray := strOf (putL k.ws k.vs k.r k.m k.t)
def countOf (ms : List (Chk × Int)) (id : Int) : Nat := (ms.filter fun m => decide (m.2 = id)).length
def memOk (c : Cfg) (m : Chk × Int) : Bool := kFits c m.1 && decide (m.1.t ≤ c.total)
def headOk (st : List Ent) (m : Chk × Int) : Bool := (getS st m.2).2 && txEq (getS st m.2).1 (textK m.1)
def entHeld (ms : List (Chk × Int)) (e : Ent) : Bool := decide (e.n = (countOf ms e.id : Int))
def heads (s : St) : Bool := s.ms.all (headOk s.st) && s.st.all (entHeld s.ms)
def stateMay (s : St) : Bool := cfgMay s.c && decide ((s.ms.length : Int) = s.c.m) && s.ms.all (memOk s.c) && eventsMay s.es s.c.m && storeMay s.st && heads s
def scoreL (s : St) : List Int := s.ms.map fun m => (scoreR s.c m.1).1
def newF (c : Cfg) : Nat → List (Chk × Int) × List Ent
 | 0 => ([], [])
 | i + 1 => ((newF c i).1 ++ [(firstK c (i : Int), (putS (newF c i).2 (textK (firstK c (i : Int)))).2.1)], (putS (newF c i).2 (textK (firstK c (i : Int)))).1)
def newS (c : Cfg) : St := ⟨c, (newF c c.m.toNat).1, [], (newF c c.m.toNat).2⟩
def newR (c : Cfg) : St × Int := if cfgMay c = true then (newS c, 0) else (noSt, 2200)
theorem textK_ok {c : Cfg} {k : Chk} (h : kFits c k = true) : textOk (textK k) = true := by
 have h2 := kFits_len h
 have hl : k.ws.length ≤ 16 := by
  have := (more_fit h).2.1
  exact this
 have hs : (textK k).size = 10 + 8 * k.ws.length := by
  unfold textK
  rw [strOf_size]
  unfold putL
  simp only [List.length_append, lowL_len, lowsL_len, h2.1]
  omega
 unfold textOk
 rw [hs, decide_eq_true (by omega), decide_eq_true (by omega)]; rfl
theorem countOf_snoc (ms : List (Chk × Int)) (m : Chk × Int) (id : Int) : countOf (ms ++ [m]) id = countOf ms id + if m.2 = id then 1 else 0 := by
 unfold countOf
 rw [List.filter_append, List.length_append]
 by_cases h : m.2 = id
 ·simp [h]
 ·simp [h]
theorem countOf_le (ms : List (Chk × Int)) (id : Int) : countOf ms id ≤ ms.length := List.length_filter_le ..
theorem countOf_none {ms : List (Chk × Int)} {id : Int} (h : ∀ m ∈ ms, m.2 ≠ id) : countOf ms id = 0 := by
 unfold countOf
 rw [List.length_eq_zero_iff, List.filter_eq_nil_iff]
 intro m hm
 simpa using h m hm
structure NewOk (c : Cfg) (i : Nat) (ms : List (Chk × Int)) (st : List Ent) : Prop where
 len : ms.length = i
 mem : ∀ (j : Nat) m, ms[j]? = some m → m.1 = firstK c (j : Int)
 store : Store st
 head : ∀ m ∈ ms, getS st m.2 = (textK m.1, true)
 held : ∀ e ∈ st, e.n = (countOf ms e.id : Int)
 stl : st.length ≤ i
theorem getS_mem {st : List Ent} {id : Int} {t : ByteArray} (h : getS st id = (t, true)) : ∃ e ∈ st, e.id = id ∧ e.tx = t := by
 unfold getS at h
 split at h
 ·cases h
 ·cases hf : st[findN st id]? with
  | none => rw [hf] at h; cases h
  | some e =>
   rw [hf] at h
   cases h
   have hlt := (List.getElem?_eq_some_iff.1 hf).1
   have := List.findIdx_getElem (xs := st) (p := fun e : Ent => decide (e.id = id)) (w := hlt)
   have hel : st[findN st id] = e := by rw [List.getElem?_eq_getElem hlt] at hf; exact Option.some.inj hf
   exact ⟨e, List.mem_of_getElem? hf, by rw [← hel]; exact of_decide_eq_true this, rfl⟩
theorem store_empty : Store [] := ⟨by decide, fun e h => (by cases h), fun i j x y _ h => (by cases h), fun i j x y h => (by cases h)⟩
theorem new_ok {c : Cfg} (hc : cfgMay c = true) : ∀ i : Nat, i ≤ 8 → NewOk c i (newF c i).1 (newF c i).2 ∧ (∀ j, j < i → (putS (newF c j).2 (textK (firstK c (j : Int)))).2.2 = 0)
 | 0, _ => ⟨⟨rfl, fun j m h => (by cases h), store_empty, fun m h => (by cases h), fun e h => (by cases h), Nat.le_refl _⟩, fun j h => by omega⟩
 | i + 1, hi => by
  obtain ⟨⟨h1, h2, h3, h4, h5, h6⟩, h7⟩ := new_ok hc i (by omega)
  have ht := textK_ok (firstK_fits hc (i : Int))
  have hcount : ∀ id, countOf (newF c i).1 id ≤ i := fun id => by have := countOf_le (newF c i).1 id; omega
  simp only [newF]
  generalize hms : (newF c i).1 = ms at *
  generalize hst : (newF c i).2 = st at *
  obtain ⟨t, htt⟩ : ∃ t, textK (firstK c (i : Int)) = t := ⟨_, rfl⟩
  rw [htt] at ht ⊢
  have hok : (putS st t).2.2 = 0 := by
   rcases put_cases st t with ⟨e, he, hp⟩ | ⟨k, x, hs, hx, hxs, h8, hp⟩ | ⟨hs, _, hno, hl, hp⟩
   ·exfalso
    unfold putS at hp
    rw [of_store h3, ht, if_neg (by decide)] at hp
    cases hf : st[holdsN st t]? with
    | some e =>
     rw [hf] at hp
     simp only at hp
     have hm := List.mem_of_getElem? hf
     have hn := h5 e hm
     have := hcount e.id
     rw [if_neg (by omega)] at hp
     simp only [Prod.mk.injEq] at hp
     exact he hp.2.2.symm
    | none =>
     rw [hf] at hp
     simp only at hp
     rw [if_neg (by omega)] at hp
     simp only [Prod.mk.injEq] at hp
     exact he hp.2.2.symm
   ·rw [hp]
   ·rw [hp]
  obtain ⟨l1, l2, l3⟩ := put_leaves st t hok
  have hmem : ∀ (j : Nat) m, (ms ++ [(firstK c (i : Int), (putS st t).2.1)])[j]? = some m → m.1 = firstK c (j : Int) := fun j m hm => by
   by_cases hj : j < i
   ·rw [List.getElem?_append_left (by omega)] at hm
    exact h2 j m hm
   ·rw [List.getElem?_append_right (by omega)] at hm
    match hq : j - ms.length, hm with
    | 0, hm =>
     simp at hm
     subst hm
     show firstK c (i : Int) = _
     rw [show j = i by omega]
    | q + 1, hm => simp at hm
  have hhead : ∀ m ∈ ms ++ [(firstK c (i : Int), (putS st t).2.1)], getS (putS st t).1 m.2 = (textK m.1, true) := fun m hm => by
   rw [List.mem_append, List.mem_singleton] at hm
   rcases hm with hm | rfl
   ·by_cases hid : m.2 = (putS st t).2.1
    ·obtain ⟨e, he, hei, hex⟩ := getS_mem (h4 m hm)
     rw [hid, l2]
     congr 1
     -- the number is that of a text that was there
     rcases put_cases st t with ⟨e, he, hp⟩ | ⟨k, x, hs, hx, hxs, h8, hp⟩ | ⟨hs, _, hno, hl, hp⟩
     ·rw [hp] at hok; exact absurd hok he
     ·rw [hp] at hid
      simp only at hid
      obtain ⟨q, hq⟩ := List.mem_iff_getElem?.1 he
      rcases Nat.lt_trichotomy q k with h | h | h
      ·have := h3.up q k e x h hq hx; omega
      ·subst h; rw [hx] at hq; cases hq; rw [← hxs, hex]
      ·have := h3.up k q x e h hx hq; omega
     ·rw [hp] at hid
      simp only at hid
      obtain ⟨q, hq⟩ := List.mem_iff_getElem?.1 he
      have hsp := freeN_spec st
      rcases Nat.lt_or_ge q (freeN st) with h | h
      ·have := hsp.2.1 q e h hq; omega
      ·have := free_above h3 h hq; omega
    ·rw [l3 m.2 hid]; exact h4 m hm
   ·show getS (putS st t).1 (putS st t).2.1 = (textK (firstK c (i : Int)), true)
    rw [l2, htt]
  have hlen : (ms ++ [(firstK c (i : Int), (putS st t).2.1)]).length = i + 1 := by simp [h1]
  refine ⟨⟨hlen, hmem, store_of l1, hhead, fun e he => ?_, ?_⟩, fun j hj => ?_⟩
  ·rw [countOf_snoc]
   simp only
   rcases put_cases st t with ⟨e', he', hp⟩ | ⟨k, x, hs, hx, hxs, h8, hp⟩ | ⟨hs, _, hno, hl, hp⟩
   ·rw [hp] at hok; exact absurd hok he'
   ·rw [hp] at he ⊢
    simp only at he ⊢
    rw [bump_at 1 hx] at he
    have hlt := (List.getElem?_eq_some_iff.1 hx).1
    obtain ⟨q, hq⟩ := List.mem_iff_getElem?.1 he
    by_cases hqk : k = q
    ·subst hqk
     rw [List.getElem?_set_self hlt] at hq
     cases hq
     have := h5 x (List.mem_of_getElem? hx)
     simp only [if_true]
     rw [this]; omega
    ·rw [List.getElem?_set_ne hqk] at hq
     have := h5 e (List.mem_of_getElem? hq)
     rw [if_neg (fun h => ?_), this]
     ·omega
     ·rcases Nat.lt_or_ge k q with h' | h'
      ·have := h3.up k q x e h' hx hq; omega
      ·have := h3.up q k e x (by omega) hq hx; omega
   ·rw [hp] at he ⊢
    simp only at he ⊢
    rcases ins_mem.1 he with he | rfl
    ·have hne : ¬ (freeN st : Int) = e.id := fun h => by
      obtain ⟨q, hq⟩ := List.mem_iff_getElem?.1 he
      have hsp := freeN_spec st
      rcases Nat.lt_or_ge q (freeN st) with h' | h'
      ·have := hsp.2.1 q e h' hq; omega
      ·have := free_above h3 h' hq; omega
     rw [if_neg hne, h5 e he]; omega
    ·simp only
     rw [if_pos trivial, countOf_none fun m hm hid => ?_]
     ·rfl
     ·obtain ⟨e, he, hei, _⟩ := getS_mem (h4 m hm)
      obtain ⟨q, hq⟩ := List.mem_iff_getElem?.1 he
      have hsp := freeN_spec st
      rcases Nat.lt_or_ge q (freeN st) with h' | h'
      ·have := hsp.2.1 q e h' hq; omega
      ·have := free_above h3 h' hq; omega
  ·rcases put_cases st t with ⟨e', he', hp⟩ | ⟨k, x, hs, hx, hxs, h8, hp⟩ | ⟨hs, _, hno, hl, hp⟩
   ·rw [hp]; simp
   ·rw [hp]; simp only; rw [bump_len]; omega
   ·rw [hp]
    simp only
    unfold insE
    rw [List.length_append, List.length_take, List.length_cons, List.length_drop]
    have := (freeN_spec st).1
    omega
  ·by_cases hji : j = i
   ·subst hji
    rw [hst, htt]; exact hok
   ·exact h7 j (by omega)
theorem newS_may {c : Cfg} (hc : cfgMay c = true) : stateMay (newS c) = true := by
 obtain ⟨hm2, _, _, htot, _⟩ := cfgMay_split hc
 obtain ⟨⟨h1, h2, h3, h4, h5, h6⟩, _⟩ := new_ok hc c.m.toNat (by omega)
 have hmm : ∀ m ∈ (newF c c.m.toNat).1, ∃ j : Nat, m.1 = firstK c (j : Int) := fun m hm => by
  obtain ⟨j, hj⟩ := List.mem_iff_getElem?.1 hm
  exact ⟨j, h2 j m hj⟩
 unfold stateMay heads newS
 simp only [Bool.and_eq_true, decide_eq_true_eq, List.all_eq_true]
 refine ⟨⟨⟨⟨⟨hc, by rw [h1]; omega⟩, fun m hm => ?_⟩, ?_⟩, of_store h3⟩, fun m hm => ?_, fun e he => ?_⟩
 ·obtain ⟨j, hj⟩ := hmm m hm
  unfold memOk
  rw [hj, firstK_fits hc, Bool.true_and]
  exact decide_eq_true (by show (0 : Int) ≤ _; omega)
 ·exact eventsMay_yes (within_iff.2 ⟨by omega, hm2.2⟩) (by simp) fun k e he => by simp at he
 ·unfold headOk
  rw [h4 m hm]
  simp [txEq_self]
 ·unfold entHeld
  exact decide_eq_true (h5 e he)
end Go.Proofs.YtaofdhgkgklppaaGreat.VM
namespace Go.Proofs.YtaofdhgkgklppaaGreat.VM
open Go
set_option linter.unusedVariables false
set_option linter.unusedSimpArgs false
def insPos (f : Nat → Int) (x : Nat) (row : List Nat) : Nat → Nat
 | 0 => 0
 | k + 1 => if f (row.getD k 0) > f x then insPos f x row k else k + 1
def mid (row : List Nat) (k x : Nat) (rest : List Nat) : List Nat := row.take k ++ x :: (row.drop k ++ rest)
def insR (f : Nat → Int) (x : Nat) (row : List Nat) : List Nat := mid row (insPos f x row row.length) x []
def rankN (f : Nat → Int) : Nat → List Nat
 | 0 => []
 | i + 1 => insR f i (rankN f i)
theorem insPos_le (f : Nat → Int) (x : Nat) (row : List Nat) : ∀ k, insPos f x row k ≤ k
 | 0 => Nat.le_refl _
 | k + 1 => by
  unfold insPos
  split
  ·exact Nat.le_succ_of_le (insPos_le f x row k)
  ·exact Nat.le_refl _
theorem mid_len {row : List Nat} {k : Nat} (x : Nat) (rest : List Nat) (hk : k ≤ row.length) : (mid row k x rest).length = row.length + 1 + rest.length := by
 simp only [mid, List.length_append, List.length_take, List.length_cons, List.length_drop]; omega
theorem mid_at {row : List Nat} {k : Nat} (x : Nat) (rest : List Nat) (hk : k ≤ row.length) : (mid row k x rest)[k]? = some x := by
 unfold mid
 rw [List.getElem?_append_right (by rw [List.length_take]; omega), List.length_take, Nat.min_eq_left hk, Nat.sub_self]; rfl
theorem mid_low {row : List Nat} {k j : Nat} (x : Nat) (rest : List Nat) (hj : j < k) (hk : k ≤ row.length) : (mid row k x rest)[j]? = some (row.getD j 0) := by
 unfold mid
 rw [List.getElem?_append_left (by rw [List.length_take]; omega), List.getElem?_take, if_pos hj, List.getD_eq_getElem?_getD, List.getElem?_eq_getElem (by omega)]; rfl
theorem mid_end (row : List Nat) (x : Nat) (rest : List Nat) : mid row row.length x rest = row ++ x :: rest := by simp [mid]
theorem mid_rest (row : List Nat) (k x : Nat) (rest : List Nat) : mid row k x rest = mid row k x [] ++ rest := by simp [mid]
theorem set_append_at {α : Type} (a : List α) (y z : α) (b : List α) : (a ++ y :: b).set a.length z = a ++ z :: b := by
 rw [List.set_append_right _ _ (Nat.le_refl _), Nat.sub_self]; rfl
theorem mid_split {row : List Nat} {k : Nat} (hk : k < row.length) : row.take (k + 1) = row.take k ++ [row.getD k 0] ∧ row.drop k = row.getD k 0 :: row.drop (k + 1) := by
 have hg : row.getD k 0 = row[k] := by rw [List.getD_eq_getElem?_getD, List.getElem?_eq_getElem hk]; rfl
 rw [hg]
 exact ⟨by rw [List.take_add_one, List.getElem?_eq_getElem hk]; rfl, List.drop_eq_getElem_cons hk⟩
theorem mid_swap {row : List Nat} {k : Nat} (x : Nat) (rest : List Nat) (hk : k < row.length) : ((mid row (k + 1) x rest).set (k + 1) (row.getD k 0)).set k x = mid row k x rest := by
 obtain ⟨h1, h2⟩ := mid_split hk
 have hl : (row.take k).length = k := by rw [List.length_take]; omega
 have e1 : mid row (k + 1) x rest = row.take k ++ row.getD k 0 :: x :: (row.drop (k + 1) ++ rest) := by
  unfold mid; rw [h1]; simp
 have e2 : mid row k x rest = row.take k ++ x :: row.getD k 0 :: (row.drop (k + 1) ++ rest) := by
  unfold mid; rw [h2]; simp
 rw [e1, e2]
 have s1 : (row.take k ++ row.getD k 0 :: x :: (row.drop (k + 1) ++ rest)).set (k + 1) (row.getD k 0) = row.take k ++ row.getD k 0 :: row.getD k 0 :: (row.drop (k + 1) ++ rest) := by
  rw [List.set_append_right _ _ (by omega), hl]
  have : k + 1 - k = 1 := by omega
  rw [this]; rfl
 rw [s1]
 have := set_append_at (row.take k) (row.getD k 0) x (row.getD k 0 :: (row.drop (k + 1) ++ rest))
 rw [hl] at this
 exact this
theorem rankN_len (f : Nat → Int) : ∀ i, (rankN f i).length = i
 | 0 => rfl
 | i + 1 => by
  unfold rankN insR
  have := rankN_len f i
  rw [mid_len _ _ (by exact insPos_le _ _ _ _), this]; rfl
theorem insPos_succ {f : Nat → Int} {x : Nat} {row : List Nat} {k : Nat} (h : f (row.getD k 0) > f x) : insPos f x row (k + 1) = insPos f x row k := by
 rw [insPos, if_pos h]
theorem insPos_stop {f : Nat → Int} {x : Nat} {row : List Nat} {k : Nat} (h : k = 0 ∨ ¬ f (row.getD (k - 1) 0) > f x) : insPos f x row k = k := by
 cases k with
 | zero => rfl
 | succ k =>
  rw [insPos, if_neg]
  rcases h with h | h
  ·cases h
  ·simpa using h
def before (f : Nat → Int) (a b : Nat) : Prop := f a < f b ∨ (f a = f b ∧ a < b)
theorem insPos_above {f : Nat → Int} {x : Nat} {row : List Nat} : ∀ k, ∀ j, insPos f x row k ≤ j → j < k → f (row.getD j 0) > f x
 | 0, j, _, h => by omega
 | k + 1, j, h1, h2 => by
  unfold insPos at h1
  split at h1
  ·rename_i hg
   by_cases hj : j = k
   ·subst hj; exact hg
   ·exact insPos_above k j h1 (by omega)
  ·omega
theorem insPos_below {f : Nat → Int} {x : Nat} {row : List Nat} : ∀ k, 0 < insPos f x row k → ¬ f (row.getD (insPos f x row k - 1) 0) > f x
 | 0, h => by simp [insPos] at h
 | k + 1, h => by
  unfold insPos at h ⊢
  split
  ·rename_i hg
   rw [if_pos hg] at h
   exact insPos_below k h
  ·rename_i hg
   simpa using hg
theorem insR_perm (f : Nat → Int) (x : Nat) (row : List Nat) : (insR f x row).Perm (x :: row) := by
 unfold insR mid
 rw [List.append_nil]
 refine List.perm_middle.trans ?_
 rw [List.take_append_drop]
theorem insR_sorted {f : Nat → Int} {x : Nat} {row : List Nat} (hs : row.Pairwise (before f)) (hx : ∀ y ∈ row, y < x) : (insR f x row).Pairwise (before f) := by
 have hle := insPos_le f x row row.length
 have hab := insPos_above (f := f) (x := x) (row := row) row.length
 have hbe := insPos_below (f := f) (x := x) (row := row) row.length
 unfold insR mid
 generalize insPos f x row row.length = p at *
 rw [List.append_nil]
 have hsplit : row.take p ++ row.drop p = row := List.take_append_drop p row
 have hs' := hs
 rw [← hsplit] at hs'
 obtain ⟨s1, s2, s3⟩ := List.pairwise_append.1 hs'
 have hlow : ∀ a ∈ row.take p, before f a x := fun a ha => by
  have hax := hx a (List.mem_of_mem_take ha)
  obtain ⟨j, hj⟩ := List.mem_iff_getElem?.1 ha
  rw [List.getElem?_take] at hj
  split at hj
  ·rename_i hjp
   have hb := hbe (by omega)
   have hga : row.getD j 0 = a := by rw [List.getD_eq_getElem?_getD, hj]; rfl
   have hle2 : f a ≤ f (row.getD (p - 1) 0) := by
    by_cases he : j = p - 1
    ·rw [← hga, he]; exact Int.le_refl _
    ·have hlt : j < p - 1 := by omega
     have hq : row[p - 1]? = some (row.getD (p - 1) 0) := by rw [List.getD_eq_getElem?_getD, List.getElem?_eq_getElem (by omega)]; rfl
     have hlj : j < row.length := (List.getElem?_eq_some_iff.1 hj).1
     have hlp : p - 1 < row.length := by omega
     have := List.pairwise_iff_getElem.1 hs j (p - 1) hlj hlp hlt
     have e1 : row[j] = a := (List.getElem?_eq_some_iff.1 hj).2
     have e2 : row[p - 1] = row.getD (p - 1) 0 := (List.getElem?_eq_some_iff.1 hq).2
     rw [e1, e2] at this
     unfold before at this; omega
   unfold before; omega
  ·cases hj
 have hhigh : ∀ b ∈ row.drop p, before f x b := fun b hb => by
  obtain ⟨j, hj⟩ := List.mem_iff_getElem?.1 hb
  rw [List.getElem?_drop] at hj
  have hgb : row.getD (p + j) 0 = b := by rw [List.getD_eq_getElem?_getD, hj]; rfl
  have := hab (p + j) (by omega) (List.getElem?_eq_some_iff.1 hj).1
  rw [hgb] at this
  unfold before; omega
 refine List.pairwise_append.2 ⟨s1, List.pairwise_cons.2 ⟨hhigh, s2⟩, fun a ha b hb => ?_⟩
 rcases List.mem_cons.1 hb with rfl | hb
 ·exact hlow a ha
 ·exact s3 a ha b hb
theorem rankN_mem (f : Nat → Int) : ∀ (i x : Nat), x ∈ rankN f i ↔ x < i
 | 0, x => by simp [rankN]
 | i + 1, x => by
  unfold rankN
  rw [(insR_perm f i (rankN f i)).mem_iff, List.mem_cons, rankN_mem f i x]; omega
theorem rankN_sorted (f : Nat → Int) : ∀ i, (rankN f i).Pairwise (before f)
 | 0 => .nil
 | i + 1 => insR_sorted (rankN_sorted f i) fun y hy => (rankN_mem f i y).1 hy
theorem before_irr (f : Nat → Int) (a : Nat) : ¬ before f a a := by unfold before; omega
end Go.Proofs.YtaofdhgkgklppaaGreat.VM
namespace Go.Proofs.YtaofdhgkgklppaaGreat.VM
open Go
set_option linter.unusedVariables false
set_option linter.unusedSimpArgs false
attribute [local irreducible] wq wqL wqD wqE wqO Th Bk EndR
set_option maxHeartbeats 8000000
def natC (cs : List V) (k : Nat) : Prop := cs = [.int .i64 (k : Int)]
def scoreAt (ss : List Int) (k : Nat) : Int := ss.getD k 0
def rcmpI (a b : Int) : Int := if a < b then -1 else if a > b then 1 else 0
theorem rcmpI_neg (a b : Int) : decide (rcmpI a b < 0) = decide (a < b) := by
 unfold rcmpI
 split
 ·rename_i h; simp [h]
 ·rename_i h
  split <;> simp [h]
theorem getDI {xs : List Int} {k : Nat} (h : k < xs.length) : xs[k]? = some (xs.getD k 0) := by simp [List.getD_eq_getElem?_getD, h]
theorem risNaN_ (H : Heap) (x : Int) : Call Tryz.prog 166 [.int .i64 x] H (.bool false) H := by
 refine call_pure fit mixed Tryz.func166 rfl rfl rfl (by kernel_rfl) rfl fun hM => ?_
 refine goM ?_
 exact end_1 (by first | exact .inl rfl | exact .inr rfl) ⟨rfl, hM.pre⟩
theorem rcompare_ (H : Heap) (a b : Int) : Call Tryz.prog 87 [.int .i64 a, .int .i64 b] H (.int .i64 (rcmpI a b)) H := by
 refine call_pure fit mixed Tryz.func87 rfl rfl rfl (by kernel_rfl) rfl fun hM => ?_
 have c1 := risNaN_ H a
 have c2 := risNaN_ H b
 refine goM ?_
 refine l_callG c1 ?_
 refine goM ?_
 refine l_callG c2 ?_
 unfold rcmpI
 by_cases h1 : a < b
 ·have d1 : decide (a < b) = true := decide_eq_true h1
  rw [if_pos h1]
  clear h1
  refine goM ?_
  exact end_1 (by first | exact .inl rfl | exact .inr rfl) ⟨rfl, hM.pre⟩
 ·have d1 : decide (a < b) = false := decide_eq_false h1
  rw [if_neg h1]
  clear h1
  by_cases h2 : a > b
  ·have d2 : decide (a > b) = true := decide_eq_true h2
   rw [if_pos h2]
   clear h2
   refine goM ?_
   exact end_1 (by first | exact .inl rfl | exact .inr rfl) ⟨rfl, hM.pre⟩
  ·have d2 : decide (a > b) = false := decide_eq_false h2
   rw [if_neg h2]
   clear h2
   refine goM ?_
   exact end_1 (by first | exact .inl rfl | exact .inr rfl) ⟨rfl, hM.pre⟩
theorem rankCmp_ (H : Heap) (b : Nat) (sv : V) (ss : List Int) (a c : Nat) (hb : H[b]? = some (.row [sv] true)) (hs : Sl 1 intC H sv ss) (ha : a < ss.length) (hc : c < ss.length) :
  Call Tryz.prog 86 [.int .i64 (a : Int), .int .i64 (c : Int), .ptr b 0] H (.int .i64 (rcmpI (scoreAt ss a) (scoreAt ss c))) H := by
 refine call_pure fit mixed Tryz.func86 rfl rfl rfl (by kernel_rfl) rfl fun hM => ?_
 have l0 : loadV T 27 H b 0 = some sv := ld_cell T27 rfl hb rfl
 obtain ⟨b1, o1, _, hi1, rfl, _, hlo1, _⟩ := hs.get T27 rfl T3 rfl (getDI (xs := ss) (k := a) ha)
 have ho1 := loadV_one T3 rfl hlo1
 obtain ⟨b2, o2, _, hi2, rfl, _, hlo2, _⟩ := hs.get T27 rfl T3 rfl (getDI (xs := ss) (k := c) hc)
 have ho2 := loadV_one T3 rfl hlo2
 have c1 := rcompare_ H (scoreAt ss a) (scoreAt ss c)
 unfold scoreAt at c1 ⊢
 refine goM ?_
 refine d_call0G c1 ?_
 refine goM ?_
 exact end_1 (by first | exact .inl rfl | exact .inr rfl) ⟨rfl, hM.pre⟩
theorem range'_cons (i n : Nat) (h : i < n) : List.range' i (n - i) = i :: List.range' (i + 1) (n - (i + 1)) := by
 obtain ⟨m, rfl⟩ : ∃ m, n = i + 1 + m := ⟨n - (i + 1), by omega⟩
 rw [show i + 1 + m - i = m + 1 by omega, show i + 1 + m - (i + 1) = m by omega]
 rfl
theorem insSort_ (B H : Heap) (L0 : List Res) (b n : Nat) (v sv : V) (ss : List Int) (hn : ss.length = n) (h8 : n ≤ 20) (h1 : 1 ≤ n) (hs : Sl 1 intC B sv ss) (hM : Mem B H (.own 1 natC v (List.range n) :: .box b [sv] :: L0)) :
  ∃ w H', Call Tryz.prog 212 [v, .int .i64 0, .int .i64 (n : Int), .fn 86 [.ptr b 0]] H w H' ∧ w = .tup [] ∧ Mem B H' (.own 1 natC v (rankN (scoreAt ss) n) :: .box b [sv] :: L0) := by
 refine call_turn fit mixed hM Tryz.func212 rfl rfl rfl (by kernel_rfl) fun _ => ?_
 refine goM ?_
 refine wq_loop (fun m ρ hp => ∃ i : Nat, 1 ≤ i ∧ i ≤ n ∧ m = n - i ∧ Mem B hp (.own 1 natC v (rankN (scoreAt ss) i ++ List.range' i (n - i)) :: .box b [sv] :: L0) ∧ ρ 0 = v ∧ ρ 1 = .int .i64 0 ∧ ρ 2 = .int .i64 (n : Nat) ∧ ρ 3 = .fn 86 [.ptr b 0] ∧ ρ 8 = .int .i64 (i : Nat)) ⟨1, Nat.le_refl _, h1, rfl, ?_, rfl, rfl, rfl, rfl, rfl⟩ ?_
 ·have e : rankN (scoreAt ss) 1 ++ List.range' 1 (n - 1) = List.range n := by
   rw [List.range_eq_range']
   have := range'_cons 0 n h1
   rw [Nat.sub_zero] at this
   rw [this]; rfl
  rw [e]; exact hM
 clear hM
 rintro _ ρ hp ⟨i, hi1, hi, rfl, hM, h0, h1', h2, h3, h8'⟩
 refine goM ?_
 refine cond_go (fun hb => ?_) (fun hb => ?_)
 ·have hi' : i < n := by simpa using hb
  clear hb
  have hrl := rankN_len (scoreAt ss) i
  have hrm := rankN_mem (scoreAt ss) i
  have hwi := wrap_succ (n := i) (by omega)
  have hnext : rankN (scoreAt ss) (i + 1) = insR (scoreAt ss) i (rankN (scoreAt ss) i) := rfl
  rw [range'_cons i n hi'] at hM
  obtain ⟨rest, hrest⟩ : ∃ r, List.range' (i + 1) (n - (i + 1)) = r := ⟨_, rfl⟩
  rw [hrest, ← mid_end, hrl] at hM
  rw [insR, hrl] at hnext
  generalize rankN (scoreAt ss) i = row at *
  refine goM ?_
  refine wq_loop (fun m ρ hp => ∃ k : Nat, k ≤ i ∧ m = k ∧ insPos (scoreAt ss) i row i = insPos (scoreAt ss) i row k ∧ Mem B hp (.own 1 natC v (mid row k i rest) :: .box b [sv] :: L0) ∧ ρ 0 = v ∧ ρ 1 = .int .i64 0 ∧ ρ 2 = .int .i64 (n : Nat) ∧ ρ 3 = .fn 86 [.ptr b 0] ∧ ρ 8 = .int .i64 (i : Nat) ∧ ρ 9 = .int .i64 (k : Nat)) ⟨i, Nat.le_refl _, rfl, rfl, hM, h0, h1', h2, h3, h8', rfl⟩ ?_
  clear hM h0 h1' h2 h3 h8'
  clear ρ hp
  rintro k ρ hp ⟨_, hk, rfl, hpos, hM, h0, h1', h2, h3, h8', h9⟩
  -- what comes behind the inner loop
  have leave : (k = 0 ∨ ¬ scoreAt ss (row.getD (k - 1) 0) > scoreAt ss i) → Mem B hp (.own 1 natC v (rankN (scoreAt ss) (i + 1) ++ rest) :: .box b [sv] :: L0) := fun h => by
   have e : insPos (scoreAt ss) i row i = k := by rw [hpos, insPos_stop h]
   rw [hnext, e, ← mid_rest]; exact hM
  cases k with
  | zero =>
   have hM2 := leave (.inl rfl)
   clear leave hM
   have hd : decide (((0 : Nat) : Int) > 0) = false := rfl
   refine goM ?_
   rw [← hrest] at hM2
   exact ⟨n - (i + 1), by omega, i + 1, by omega, hi', rfl, hM2, by simp [put_app, put_none, *]⟩
  | succ k =>
   have hd : decide (((k + 1 : Nat) : Int) > 0) = true := decide_eq_true (by omega)
   have hw1 : IntKind.i64.wrap (((k + 1 : Nat) : Int) - 1) = (k : Int) := by rw [wrap_i64 (by omega) (by omega)]; omega
   have hki : k < row.length := by omega
   obtain ⟨y, hy⟩ : ∃ y, row.getD k 0 = y := ⟨_, rfl⟩
   have hyn : y < n := by
    have : y ∈ row := by rw [← hy, List.getD_eq_getElem?_getD, List.getElem?_eq_getElem hki]; exact List.getElem_mem _
    have := (hrm y).1 this; omega
   have g1 := mid_at i rest (by omega : k + 1 ≤ row.length)
   have g2 := mid_low i rest (Nat.lt_succ_self k) (by omega : k + 1 ≤ row.length)
   rw [hy] at g2
   have hsl := hM.sl .here
   obtain ⟨b1, o1, _, hi1', rfl, _, hlo1, _⟩ := hsl.get T27 rfl T3 rfl g1
   have ho1 := loadV_one T3 rfl hlo1
   obtain ⟨b2, o2, _, hi2', rfl, _, hlo2, _⟩ := hsl.get T27 rfl T3 rfl g2
   have ho2 := loadV_one T3 rfl hlo2
   have c1 := rankCmp_ hp b sv ss i y (hM.row (.there .here)) (hs.mono hM.pre) (by omega) (by omega)
   have hcn := rcmpI_neg (scoreAt ss i) (scoreAt ss y)
   have hleave2 : decide (scoreAt ss i < scoreAt ss y) = false → Mem B hp (.own 1 natC v (rankN (scoreAt ss) (i + 1) ++ rest) :: .box b [sv] :: L0) := fun h => leave (.inr (by
    rw [Nat.add_sub_cancel, hy]; simpa using h))
   have hpos2 : decide (scoreAt ss i < scoreAt ss y) = true → insPos (scoreAt ss) i row (k + 1) = insPos (scoreAt ss) i row k := fun h => insPos_succ (by rw [hy]; simpa using h)
   have hlen1 : (mid row (k + 1) i rest).length = row.length + 1 + rest.length := mid_len _ _ (by omega)
   obtain ⟨b3, hi3, put1⟩ := hM.elem .here T27 rfl T3 rfl (k := k + 1) (by omega)
   obtain ⟨H1, st1, hM1⟩ := put1 (.int .i64 (y : Int)) y rfl rfl rfl
   obtain ⟨b4, hi4, put2⟩ := hM1.elem .here T27 rfl T3 rfl (k := k) (by simp only [List.length_set]; omega)
   obtain ⟨H2, st2, hM2⟩ := put2 (.int .i64 (i : Int)) i rfl rfl rfl
   rw [← hy, mid_swap i rest hki] at hM2
   rw [hi1'] at hi3
   cases hi3
   rw [hi2'] at hi4
   cases hi4
   obtain ⟨t, ht⟩ : ∃ t, decide (scoreAt ss i < scoreAt ss y) = t := ⟨_, rfl⟩
   rw [ht] at hcn hleave2 hpos2
   clear leave put1 put2 hlo1 hlo2 hsl g1 g2 ht hM1 hlen1 hnext
   refine goM ?_
   refine d_call0G c1 ?_
   cases t with
   | false =>
    have hM3 := hleave2 rfl
    clear hleave2 hpos2 hM hM2
    refine goM ?_
    rw [← hrest] at hM3
    exact ⟨n - (i + 1), by omega, i + 1, by omega, hi', rfl, hM3, by simp [put_app, put_none, *]⟩
   | true =>
    have hpos3 := hpos2 rfl
    clear hleave2 hpos2 hM
    refine goM ?_
    refine d_stM st1 ?_
    refine goM ?_
    refine d_stM st2 ?_
    refine goM ?_
    exact ⟨k, by omega, k, by omega, rfl, by rw [hpos, hpos3], hM2, by simp [put_app, put_none, *]⟩
 ·have hi' : i = n := by have : ¬ i < n := by simpa using hb
                         omega
  subst hi'
  clear hb
  rw [Nat.sub_self, show List.range' i 0 = [] from rfl, List.append_nil] at hM
  refine goM ?_
  exact end_normal (by simp only [resRf, resRs, resR]; first | done | rfl) ⟨rfl, hM⟩
theorem stable_ (B H : Heap) (L0 : List Res) (b n : Nat) (v sv : V) (ss : List Int) (hn : ss.length = n) (h8 : n ≤ 8) (h1 : 1 ≤ n) (hs : Sl 1 intC B sv ss) (hM : Mem B H (.own 1 natC v (List.range n) :: .box b [sv] :: L0)) :
  ∃ w H', Call Tryz.prog 165 [v, .int .i64 (n : Int), .fn 86 [.ptr b 0]] H w H' ∧ w = .tup [] ∧ Mem B H' (.own 1 natC v (rankN (scoreAt ss) n) :: .box b [sv] :: L0) := by
 refine call_turn fit mixed hM Tryz.func165 rfl rfl rfl (by kernel_rfl) fun _ => ?_
 have d1 : decide ((20 : Int) ≤ (n : Int)) = false := decide_eq_false (by omega)
 have d2 : decide ((20 : Int) < (n : Int)) = false := decide_eq_false (by omega)
 obtain ⟨_, H1, c1, rfl, hM1⟩ := insSort_ B H L0 b n v sv ss hn (by omega) h1 hs hM
 clear hM
 refine goM ?_
 refine wq_loop (fun m ρ hp => hp = H ∧ ρ 0 = v ∧ ρ 1 = .int .i64 (n : Int) ∧ ρ 2 = .fn 86 [.ptr b 0] ∧ ρ 6 = .int .i64 20 ∧ ρ 7 = .int .i64 0 ∧ ρ 8 = .int .i64 20) (m := 0) ⟨rfl, rfl, rfl, rfl, rfl, rfl, rfl⟩ ?_
 rintro _ ρ hp ⟨rfl, e0, e1, e2, e6, e7, e8⟩
 refine goM ?_
 refine l_callG c1 ?_
 clear c1
 refine goM ?_
 refine wq_loop (fun m ρ hp => hp = H1 ∧ ρ 1 = .int .i64 (n : Int) ∧ ρ 6 = .int .i64 20) (m := 0) ⟨rfl, by simp [put_app, put_none, *], by simp [put_app, put_none, *]⟩ ?_
 clear e0 e1 e2 e6 e7 e8
 clear ρ
 rintro _ ρ hp2 ⟨rfl, e1, e6⟩
 refine goM ?_
 exact end_normal (by simp only [resRf, resRs, resR]; first | done | rfl) ⟨rfl, hM1⟩
theorem sortStable_ (B H : Heap) (L0 : List Res) (b n : Nat) (v sv : V) (ss : List Int) (hn : ss.length = n) (h8 : n ≤ 8) (h1 : 1 ≤ n) (hs : Sl 1 intC B sv ss) (hM : Mem B H (.own 1 natC v (List.range n) :: .box b [sv] :: L0)) :
  ∃ w H', Call Tryz.prog 85 [v, .fn 86 [.ptr b 0]] H w H' ∧ w = .tup [] ∧ Mem B H' (.own 1 natC v (rankN (scoreAt ss) n) :: .box b [sv] :: L0) := by
 refine call_turn fit mixed hM Tryz.func85 rfl rfl rfl (by kernel_rfl) fun _ => ?_
 have hlen := (hM.sl .here).len T27 rfl
 rw [List.length_range] at hlen
 obtain ⟨_, H1, c1, rfl, hM1⟩ := stable_ B H L0 b n v sv ss hn h8 h1 hs hM
 clear hM
 refine goM ?_
 refine l_callG c1 ?_
 refine goM ?_
 exact end_normal (by simp only [resRf, resRs, resR]; first | done | rfl) ⟨rfl, hM1⟩
def rankMay (ss : List Int) : Bool := (decide (1 ≤ ss.length) && decide (ss.length ≤ 8)) && vecMay ss
def rankE (ss : List Int) : Int := if rankMay ss then 0 else 1200
def rankL (ss : List Int) : List Nat := if rankMay ss then rankN (scoreAt ss) ss.length else []
theorem fill_step {k n : Nat} (hk : k < n) : (List.range k ++ List.replicate (n - k) 0).set k k = List.range (k + 1) ++ List.replicate (n - (k + 1)) 0 := by
 obtain ⟨m, rfl⟩ : ∃ m, n = k + 1 + m := ⟨n - (k + 1), by omega⟩
 rw [show k + 1 + m - k = m + 1 by omega, show k + 1 + m - (k + 1) = m by omega, List.replicate_succ]
 have := set_append_at (List.range k) 0 k (List.replicate m 0)
 rw [List.length_range] at this
 rw [this, List.range_succ, List.append_assoc]; rfl
theorem rankOf_ (H : Heap) (sv : V) (ss : List Int) (hs : Sl 1 intC H sv ss) (hl : ss.length ≤ 2 ^ 47) : ∃ w H', Call Tryz.prog 30 [sv] H w H' ∧ ∃ u, w = .tup [u, .int .i64 (rankE ss)] ∧ Mem H H' [.own 1 natC u (rankL ss)] := by
 have s0 := hs.cells
 have hlen := hs.len T27 rfl
 refine call_mem fit mixed Tryz.func30 rfl rfl rfl (by kernel_rfl) fun hM => ?_
 refine wq_seq (wq_line ?_)
 refine l_boxM T27 fun b1 H1 hM => ?_
 have c1 := vecMay_ H1 sv ss (hs.mono hM.pre) hl
 unfold rankE rankL rankMay
 obtain ⟨n, hn⟩ : ∃ n, ss.length = n := ⟨_, rfl⟩
 rw [hn] at hlen ⊢
 by_cases hz : n = 0
 ·subst hz
  have d1 : ((((0 : Nat) : Int)) == 0) = true := rfl
  refine goM ?_
  exact end_2 (by first | exact .inl rfl | exact .inr rfl) ⟨.nils, rfl, (Mem.start H).grow hM.pre |>.nil 1 natC |>.front .here⟩
 have d1 : ((n : Int) == 0) = false := by simpa using hz
 by_cases h8 : n ≤ 8
 ·have d2 : decide ((n : Int) > 8) = false := decide_eq_false (by omega)
  obtain ⟨vm, hvm⟩ : ∃ q, vecMay ss = q := ⟨_, rfl⟩
  rw [hvm] at c1 ⊢
  cases vm with
  | false =>
   have e1 : ((decide (1 ≤ n) && decide (n ≤ 8)) && false) = false := by simp
   simp only [e1]
   refine goM ?_
   refine l_callG c1 ?_
   refine goM ?_
   exact end_2 (by first | exact .inl rfl | exact .inr rfl) ⟨.nils, rfl, (Mem.start H).grow hM.pre |>.nil 1 natC |>.front .here⟩
  | true =>
   have e1 : ((decide (1 ≤ n) && decide (n ≤ 8)) && true) = true := by simp; omega
   simp only [e1, if_true]
   refine goM ?_
   refine l_callG c1 ?_
   clear e1 hvm c1 d1 d2
   refine goM ?_
   refine l_makeM 1 natC T27 rfl T3 (n := n) (z := 0) rfl rfl rfl rfl rfl ⟨by show (8 : Int) * _ ≤ _; omega, by omega⟩ fun v H2 hM => ?_
   have hvl := (hM.sl .here).len T27 rfl
   rw [List.length_replicate] at hvl
   refine goM ?_
   refine wq_loop (fun m ρ hp => ∃ k : Nat, k ≤ n ∧ m = n - k ∧ Mem H hp [.own 1 natC v (List.range k ++ List.replicate (n - k) 0), .box b1 [sv]] ∧ ρ 1 = .ptr b1 0 ∧ ρ 4 = v ∧ ρ 23 = .int .i64 (n : Int) ∧ ρ 24 = .int .i64 (k : Nat)) ⟨0, Nat.zero_le _, rfl, hM, rfl, rfl, rfl, rfl⟩ ?_
   clear hM
   rintro _ ρ hp ⟨k, hk, rfl, hM, h1, h4, h23, h24⟩
   refine goM ?_
   refine cond_go (fun hb => ?_) (fun hb => ?_)
   ·have hk' : k < n := by simpa using hb
    clear hb
    obtain ⟨b3, hi3, put1⟩ := hM.elem .here T27 rfl T3 rfl (k := k) (by simp; omega)
    obtain ⟨H3, st1, hM1⟩ := put1 (.int .i64 (k : Int)) k rfl rfl rfl
    rw [fill_step hk'] at hM1
    have hw := wrap_succ (n := k) (by omega)
    clear put1 hM
    refine goM ?_
    refine l_stM st1 ?_
    refine goM ?_
    exact ⟨n - (k + 1), by omega, k + 1, hk', rfl, hM1, by simp [put_app, put_none, *]⟩
   ·have hk' : k = n := by have : ¬ k < n := by simpa using hb
                           omega
    subst hk'
    clear hb
    rw [Nat.sub_self, List.replicate_zero, List.append_nil] at hM
    obtain ⟨_, H3, c2, rfl, hM1⟩ := sortStable_ H hp [] b1 k v sv ss hn h8 (by omega) hs hM
    clear hM
    refine goM ?_
    refine l_callG c2 ?_
    refine goM ?_
    exact end_2 (by first | exact .inl rfl | exact .inr rfl) ⟨v, rfl, hM1.subG⟩
 ·have d2 : decide ((n : Int) > 8) = true := decide_eq_true (by omega)
  have e1 : ((decide (1 ≤ n) && decide (n ≤ 8)) && vecMay ss) = false := by simp [h8]
  simp only [e1]
  refine goM ?_
  exact end_2 (by first | exact .inl rfl | exact .inr rfl) ⟨.nils, rfl, (Mem.start H).grow hM.pre |>.nil 1 natC |>.front .here⟩
theorem Sl.ints {H : Heap} {v : V} {xs : List Nat} (h : Sl 1 natC H v xs) : Sl 1 intC H v (xs.map fun (k : Nat) => (k : Int)) := by
 rcases h with ⟨rfl, rfl⟩ | ⟨b, off, cap, t, cs, wr, rfl, h1, h2, h3, h4⟩
 ·exact .inl ⟨rfl, rfl⟩
 ·refine .inr ⟨b, off, cap, t, cs, wr, by rw [List.length_map], by rw [List.length_map]; exact h1, h2, by rw [List.length_map]; exact h3, fun k y hy => ?_⟩
  rw [List.getElem?_map] at hy
  cases hx : xs[k]? with
  | none => rw [hx] at hy; cases hy
  | some x => rw [hx] at hy; cases hy; exact h4 k x hx
theorem index_ (H : Heap) (v : V) (xs : List Int) (x : Int) (hs : Sl 1 intC H v xs) (hl : xs.length ≤ 2 ^ 47) : ∃ w H', Call Tryz.prog 222 [v, .int .i64 x] H w H' ∧ H <+: H' ∧ ∃ r, w = .int .i64 r ∧ decide (r ≥ 0) = decide (x ∈ xs) := by
 have hlen := hs.len T27 rfl
 obtain ⟨n, hn⟩ : ∃ n, xs.length = n := ⟨_, rfl⟩
 rw [hn] at hlen hl
 refine call_mem fit mixed Tryz.func222 rfl rfl rfl (by kernel_rfl) fun hM => ?_
 clear hM
 refine goM ?_
 refine wq_loop (fun m ρ hp => ∃ k : Nat, k ≤ n ∧ m = n - k ∧ hp = H ∧ (∀ j : Nat, j < k → xs[j]? ≠ some x) ∧ ρ 0 = v ∧ ρ 1 = .int .i64 x ∧ ρ 7 = .int .i64 (n : Int) ∧ ρ 8 = .int .i64 (k : Nat)) ⟨0, Nat.zero_le _, rfl, rfl, fun j h => absurd h (Nat.not_lt_zero _), rfl, rfl, rfl, rfl⟩ ?_
 rintro _ ρ hp ⟨k, hk, rfl, hpe, hno, h0, h1, h7, h8⟩
 subst hpe
 refine goM ?_
 refine cond_go (fun hb => ?_) (fun hb => ?_)
 ·have hk' : k < n := by simpa using hb
  clear hb
  have hg : xs[k]? = some (xs.getD k 0) := getDI (by omega)
  obtain ⟨b1, o1, _, hi1, rfl, _, hlo1, _⟩ := hs.get T27 rfl T3 rfl hg
  have ho1 := loadV_one T3 rfl hlo1
  have hw := wrap_succ (n := k) (by omega)
  generalize xs.getD k 0 = y at *
  refine goM ?_
  refine cond_go (fun hb => ?_) (fun hb => ?_)
  ·have he : x = y := by simpa using hb
   subst he
   clear hb
   have hm : x ∈ xs := List.mem_iff_getElem?.2 ⟨k, hg⟩
   refine goM ?_
   refine end_1 (by first | exact .inl rfl | exact .inr rfl) ⟨List.prefix_refl _, (k : Int), rfl, ?_⟩
   rw [decide_eq_true hm]; simp
  ·have he : x ≠ y := by simpa using hb
   clear hb
   have hno' : ∀ j : Nat, j < k + 1 → xs[j]? ≠ some x := fun j hj hx => by
    by_cases hjk : j = k
    ·subst hjk; rw [hg] at hx; cases hx; exact he rfl
    ·exact hno j (by omega) hx
   clear he hno
   refine goM ?_
   exact ⟨n - (k + 1), by omega, k + 1, hk', rfl, rfl, hno', by simp [put_app, put_none, *]⟩
 ·have hk' : k = n := by have : ¬ k < n := by simpa using hb
                         omega
  subst hk'
  clear hb
  have hm : ¬ x ∈ xs := fun h => by
   obtain ⟨j, hj⟩ := List.mem_iff_getElem?.1 h
   exact hno j (by have := (List.getElem?_eq_some_iff.1 hj).1; omega) hj
  clear hno
  refine goM ?_
  refine end_1 (by first | exact .inl rfl | exact .inr rfl) ⟨List.prefix_refl _, -1, rfl, ?_⟩
  rw [decide_eq_false hm]; rfl
theorem contains_ (H : Heap) (v : V) (xs : List Int) (x : Int) (hs : Sl 1 intC H v xs) (hl : xs.length ≤ 2 ^ 47) : Call Tryz.prog 202 [v, .int .i64 x] H (.bool (decide (x ∈ xs))) H := by
 obtain ⟨_, H1, c1, p1, r, rfl, hr⟩ := index_ H v xs x hs hl
 generalize decide (x ∈ xs) = q at *
 refine call_pure fit mixed Tryz.func202 rfl rfl rfl (by kernel_rfl) rfl fun hM => ?_
 refine goM ?_
 refine l_callG c1 ?_
 refine goM ?_
 exact end_1 (by first | exact .inl rfl | exact .inr rfl) ⟨rfl, p1⟩
def donorOk (ss : List Int) (m cut x : Int) : Bool := rankMay ss && (!decide (m < 0) && (!decide (m ≥ (ss.length : Int)) && (!decide (cut < 1) && (!decide (cut > ((ss.length / 2 : Nat) : Int)) && (!decide (x < 0) && !decide (x ≥ 65536))))))
def lastOnes (ss : List Int) (cut : Int) : List Int := ((rankL ss).drop (ss.length - cut.toNat)).map fun (k : Nat) => (k : Int)
def donorR (ss : List Int) (m cut x : Int) : Int × Bool × Int :=
 if donorOk ss m cut x then (if decide (m ∈ lastOnes ss cut) then (((rankL ss).getD (x.toNat * cut.toNat / 65536) 0 : Nat), true, 0) else (0, false, 0)) else (0, false, 1300)
theorem rankL_len {ss : List Int} (h : rankMay ss = true) : (rankL ss).length = ss.length ∧ 1 ≤ ss.length ∧ ss.length ≤ 8 := by
 have h' := h
 unfold rankMay at h'
 simp only [Bool.and_eq_true, decide_eq_true_eq] at h'
 unfold rankL
 rw [if_pos h]
 exact ⟨rankN_len _ _, h'.1.1, h'.1.2⟩
theorem donor_ (H : Heap) (sv : V) (ss : List Int) (m cut x : Int) (hs : Sl 1 intC H sv ss) (hl : ss.length ≤ 2 ^ 47) :
  Call Tryz.prog 139 [sv, .int .i64 m, .int .i64 cut, .int .i64 x] H (.tup [.int .i64 (donorR ss m cut x).1, .bool (donorR ss m cut x).2.1, .int .i64 (donorR ss m cut x).2.2]) H := by
 refine call_pure fit mixed Tryz.func139 rfl rfl rfl (by kernel_rfl) rfl fun hM => ?_
 obtain ⟨_, H1, c1, u, rfl, m1⟩ := rankOf_ H sv ss hs hl
 have s1 := (m1.sl .here).cells
 have hM1 := hM.call1 m1
 have hsl := m1.sl .here
 have hlen := hsl.len T27 rfl
 clear hM m1
 refine goM ?_
 refine l_callG c1 ?_
 clear c1
 unfold donorR donorOk
 unfold rankE
 cases hmay : rankMay ss with
 | false =>
  have hv : (V.tup [.int .i64 0, .bool false, .int .i64 1300]) = V.tup [.int .i64 0, .bool false, .int .i64 1300] := rfl
  simp only [Bool.false_and, Bool.false_eq_true, if_false]
  refine goM ?_
  exact end_3 (by first | exact .inl rfl | exact .inr rfl) ⟨rfl, hM1.pre⟩
 | true =>
  obtain ⟨hrl, hn1, hn8⟩ := rankL_len hmay
  obtain ⟨n, hn⟩ : ∃ n, ss.length = n := ⟨_, rfl⟩
  rw [hrl, hn] at hlen
  rw [hn] at hrl hn1 hn8
  have hq : IntKind.i64.wrap ((n : Int).tdiv 2) = ((n / 2 : Nat) : Int) := by
   rw [show (n : Int).tdiv 2 = ((n / 2 : Nat) : Int) from (Int.ofNat_tdiv n 2).symm]; exact wrap_nat (by omega)
  have hla : lastOnes ss cut = ((rankL ss).drop (n - cut.toNat)).map fun (k : Nat) => (k : Int) := by unfold lastOnes; rw [hn]
  simp only [Bool.true_and, if_true, hn]
  obtain ⟨q1, e1⟩ : ∃ q, decide (m < 0) = q := ⟨_, rfl⟩
  obtain ⟨q2, e2⟩ : ∃ q, decide (m ≥ (n : Int)) = q := ⟨_, rfl⟩
  obtain ⟨q3, e3⟩ : ∃ q, decide (cut < 1) = q := ⟨_, rfl⟩
  obtain ⟨q4, e4⟩ : ∃ q, decide (cut > ((n / 2 : Nat) : Int)) = q := ⟨_, rfl⟩
  obtain ⟨q5, e5⟩ : ∃ q, decide (x < 0) = q := ⟨_, rfl⟩
  obtain ⟨q6, e6⟩ : ∃ q, decide (x ≥ 65536) = q := ⟨_, rfl⟩
  rw [e1, e2, e3, e4, e5, e6]
  cases q1
  rotate_left
  ·simp only [Bool.not_true, Bool.false_and, Bool.false_eq_true, if_false]
   refine goM ?_
   exact end_3 (by first | exact .inl rfl | exact .inr rfl) ⟨rfl, hM1.pre⟩
  cases q2
  rotate_left
  ·simp only [Bool.not_true, Bool.not_false, Bool.true_and, Bool.false_and, Bool.false_eq_true, if_false]
   refine goM ?_
   exact end_3 (by first | exact .inl rfl | exact .inr rfl) ⟨rfl, hM1.pre⟩
  cases q3
  rotate_left
  ·simp only [Bool.not_true, Bool.not_false, Bool.true_and, Bool.false_and, Bool.false_eq_true, if_false]
   refine goM ?_
   exact end_3 (by first | exact .inl rfl | exact .inr rfl) ⟨rfl, hM1.pre⟩
  cases q4
  rotate_left
  ·simp only [Bool.not_true, Bool.not_false, Bool.true_and, Bool.false_and, Bool.false_eq_true, if_false]
   refine goM ?_
   exact end_3 (by first | exact .inl rfl | exact .inr rfl) ⟨rfl, hM1.pre⟩
  cases q5
  rotate_left
  ·simp only [Bool.not_true, Bool.not_false, Bool.true_and, Bool.false_and, Bool.false_eq_true, if_false]
   refine goM ?_
   exact end_3 (by first | exact .inl rfl | exact .inr rfl) ⟨rfl, hM1.pre⟩
  cases q6
  rotate_left
  ·simp only [Bool.not_true, Bool.not_false, Bool.true_and, Bool.false_and, Bool.false_eq_true, if_false]
   refine goM ?_
   exact end_3 (by first | exact .inl rfl | exact .inr rfl) ⟨rfl, hM1.pre⟩
  simp only [Bool.not_false, Bool.true_and, if_true]
  have i3 := of_decide_eq_false e3
  have i4 := of_decide_eq_false e4
  have i5 := of_decide_eq_false e5
  have i6 := of_decide_eq_false e6
  obtain ⟨c, hc⟩ : ∃ c : Nat, cut = c := ⟨cut.toNat, by omega⟩
  obtain ⟨y, hy⟩ : ∃ y : Nat, x = y := ⟨x.toNat, by omega⟩
  subst hc; subst hy
  simp only [Int.toNat_natCast] at hla ⊢
  have hw1 : IntKind.i64.wrap ((n : Int) - (c : Int)) = ((n - c : Nat) : Int) := by rw [wrap_i64 (by omega) (by omega)]; omega
  obtain ⟨w, hsl1, hsl2⟩ := hsl.rest (l := n - c) (by omega)
  replace hsl1 : sliceV 1 u (some (.int .i64 ((n - c : Nat) : Int))) none none = some w := hsl1
  have c2 := contains_ H1 w _ m hsl2.ints (by rw [List.length_map, List.length_drop]; omega)
  rw [← hla] at c2
  have hyc : y * c ≤ 65535 * c := Nat.mul_le_mul_right _ (by omega)
  have hq2 : y * c / 65536 < n := by omega
  have hw2 : IntKind.i64.wrap ((y : Int) * (c : Int)) = ((y * c : Nat) : Int) := by rw [← Int.natCast_mul]; exact wrap_nat (by omega)
  have hw3 : IntKind.i64.wrap (((y * c : Nat) : Int).tdiv 65536) = ((y * c / 65536 : Nat) : Int) := by
   rw [show ((y * c : Nat) : Int).tdiv 65536 = ((y * c / 65536 : Nat) : Int) from (Int.ofNat_tdiv (y * c) 65536).symm]; exact wrap_nat (by omega)
  have hg : (rankL ss)[y * c / 65536]? = some ((rankL ss).getD (y * c / 65536) 0) := by simp [List.getD_eq_getElem?_getD, hrl, hq2]
  obtain ⟨b1, o1, _, hi1, rfl, _, hlo1, _⟩ := hsl.get T27 rfl T3 rfl hg
  have ho1 := loadV_one T3 rfl hlo1
  have hpre := hM1.pre
  generalize (rankL ss).getD (y * c / 65536) 0 = d at *
  generalize y * c / 65536 = q at *
  obtain ⟨t, ht⟩ : ∃ t, decide (m ∈ lastOnes ss (c : Int)) = t := ⟨_, rfl⟩
  rw [ht] at c2 ⊢
  clear i3 i4 i5 i6 hla hyc hq2 hg hlo1 hsl2 hsl ht
  cases t with
  | false =>
   refine goM ?_
   refine l_callG c2 ?_
   refine goM ?_
   exact end_3 (by first | exact .inl rfl | exact .inr rfl) ⟨rfl, hpre⟩
  | true =>
   refine goM ?_
   refine l_callG c2 ?_
   refine goM ?_
   exact end_3 (by first | exact .inl rfl | exact .inr rfl) ⟨rfl, hpre⟩
def turnP (x : Int) (dn : Bool) : Int := times x (if dn = true then 52429 else 81920)
def pertR (r m : Int) (b : Nat) : Int × Int := (min 16384 (max 64 (turnP r (b % 2 == 1))), min 58982 (max 0 (turnP m (decide (2 ≤ b)))))
def triedR (c : Cfg) (r m : Int) (k : Nat) : Int × Int := if c.pert = true then pertR r m (pickN c.seed.toNat (k + 1) 4) else ((rateN c.seed.toNat (k + 2) : Nat), (momN c.seed.toNat (k + 2) : Nat))
theorem pert_may (r m : Int) (b : Nat) : hyperMay (pertR r m b).1 (pertR r m b).2 = true := by
 unfold hyperMay pertR
 simp only [Bool.and_eq_true, within_iff]
 omega
theorem tried_may (c : Cfg) (r m : Int) (k : Nat) : hyperMay (triedR c r m k).1 (triedR c r m k).2 = true := by
 unfold triedR
 split
 ·exact pert_may _ _ _
 ·exact hyper_re _ _
def msAt (ms : List (Chk × Int)) (p : Nat) : Chk × Int := ms.getD p (noChk, 0)
def doTrain (s : St) (p : Nat) : Chk := trainK s.c p (msAt s.ms p).1
def ms1 (s : St) (p : Nat) : List (Chk × Int) := s.ms.set p (doTrain s p, (msAt s.ms p).2)
def es1 (s : St) (p : Nat) : List Ev := s.es ++ [⟨0, p, 0, 0, 0, 0⟩]
def atN (p : Nat) (t : Int) : Nat := 100000 + 4096 * p + 8 * t.toNat
def donor1 (s : St) (p : Nat) : Int × Bool × Int := donorR ((ms1 s p).map fun m => (scoreR s.c m.1).1) p s.c.cutn (drawN s.c.seed.toNat (atN p (doTrain s p).t))
def takes (s : St) (p : Nat) : Bool := decide ((doTrain s p).t.tmod s.c.interval = 0) && (donor1 s p).2.1
def dChk (s : St) (p : Nat) : Chk := (msAt (ms1 s p) (donor1 s p).1.toNat).1
def hyp2 (s : St) (p : Nat) : Int × Int := triedR s.c (dChk s p).r (dChk s p).m (atN p (doTrain s p).t)
def chk2 (s : St) (p : Nat) : Chk := if takes s p = true then ⟨(dChk s p).ws, (dChk s p).vs, (hyp2 s p).1, (hyp2 s p).2, (doTrain s p).t⟩ else doTrain s p
def es2 (s : St) (p : Nat) : List Ev := if takes s p = true then es1 s p ++ [⟨1, p, (donor1 s p).1, (manyOf (es1 s p) (donor1 s p).1 : Nat), 0, 0⟩, ⟨2, p, 0, 0, (hyp2 s p).1, (hyp2 s p).2⟩] else es1 s p
def put2 (st : List Ent) (t : ByteArray) : List Ent × Int × Int := if (putS st t).2.2 = 0 then putS st t else putS (sweepS st).1 t
def st2 (s : St) (p : Nat) : List Ent := (dropS (put2 s.st (textK (chk2 s p))).1 (msAt s.ms p).2).1
def head2 (s : St) (p : Nat) : Int := (put2 s.st (textK (chk2 s p))).2.1
def doS (s : St) (p : Nat) : St := ⟨s.c, s.ms.set p (chk2 s p, head2 s p), es2 s p, st2 s p⟩
def doOk (s : St) (pick : Int) : Bool := stateMay s && within pick 0 (IntKind.i64.wrap (s.c.m - 1)) && decide (s.es.length + 4 ≤ 1024)
def doR (s : St) (pick : Int) : St × Int := if doOk s pick = true then (if (msAt s.ms pick.toNat).1.t = s.c.total then (noSt, 2301) else (doS s pick.toNat, 0)) else (noSt, 2300)
structure StOk (s : St) : Prop where
 c : cfgMay s.c = true
 len : (s.ms.length : Int) = s.c.m
 fits : ∀ m ∈ s.ms, kFits s.c m.1 = true
 tot : ∀ m ∈ s.ms, m.1.t ≤ s.c.total
 es : eventsMay s.es s.c.m = true
 st : Store s.st
 head : ∀ m ∈ s.ms, getS s.st m.2 = (textK m.1, true)
 held : ∀ e ∈ s.st, e.n = (countOf s.ms e.id : Int)
theorem stOk_of {s : St} (h : stateMay s = true) : StOk s := by
 unfold stateMay heads at h
 simp only [Bool.and_eq_true, decide_eq_true_eq, List.all_eq_true] at h
 obtain ⟨⟨⟨⟨⟨h1, h2⟩, h3⟩, h4⟩, h5⟩, h6, h7⟩ := h
 refine ⟨h1, h2, fun m hm => ?_, fun m hm => ?_, h4, store_of h5, fun m hm => ?_, fun e he => ?_⟩
 ·have := h3 m hm
  unfold memOk at this
  rw [Bool.and_eq_true] at this
  exact this.1
 ·have := h3 m hm
  unfold memOk at this
  rw [Bool.and_eq_true, decide_eq_true_eq] at this
  exact this.2
 ·have := h6 m hm
  unfold headOk at this
  rw [Bool.and_eq_true] at this
  obtain ⟨g1, g2⟩ := this
  exact Prod.ext (txEq_iff.1 g2) g1
 ·have := h7 e he
  unfold entHeld at this
  exact of_decide_eq_true this
theorem of_stOk {s : St} (h : StOk s) : stateMay s = true := by
 unfold stateMay heads
 simp only [Bool.and_eq_true, decide_eq_true_eq, List.all_eq_true]
 refine ⟨⟨⟨⟨⟨h.c, h.len⟩, fun m hm => ?_⟩, h.es⟩, of_store h.st⟩, fun m hm => ?_, fun e he => ?_⟩
 ·unfold memOk
  rw [h.fits m hm, decide_eq_true (h.tot m hm)]; rfl
 ·unfold headOk
  rw [h.head m hm]
  simp [txEq_self]
 ·unfold entHeld
  exact decide_eq_true (h.held e he)
theorem countOf_set {ms : List (Chk × Int)} {p : Nat} {o x : Chk × Int} (hp : ms[p]? = some o) (id : Int) : (countOf (ms.set p x) id : Int) = countOf ms id - (if o.2 = id then 1 else 0) + (if x.2 = id then 1 else 0) := by
 induction ms generalizing p with
 | nil => simp at hp
 | cons a ms ih =>
  match p, hp with
  | 0, hp =>
   simp at hp
   subst hp
   unfold countOf
   simp only [List.set_cons_zero, List.filter_cons]
   by_cases h1 : a.2 = id <;> by_cases h2 : x.2 = id <;> simp [h1, h2] <;> omega
  | p + 1, hp =>
   have := ih (by simpa using hp)
   unfold countOf at this ⊢
   simp only [List.set_cons_succ, List.filter_cons]
   by_cases h1 : a.2 = id <;> simp [h1] <;> omega
def HeldAs (st : List Ent) (f : Int → Int) : Prop := ∀ e ∈ st, e.n = f e.id
theorem bump_held {st : List Ent} (h : Store st) {f : Int → Int} (hf : HeldAs st f) {k : Nat} {x : Ent} (hx : st[k]? = some x) (d : Int) : HeldAs (bump st k d) (fun i => f i + if x.id = i then d else 0) := fun e he => by
 rw [bump_at d hx] at he
 have hlt := (List.getElem?_eq_some_iff.1 hx).1
 obtain ⟨q, hq⟩ := List.mem_iff_getElem?.1 he
 by_cases hqk : k = q
 ·subst hqk
  rw [List.getElem?_set_self hlt] at hq
  cases hq
  simp only [if_true]
  rw [hf x (List.mem_of_getElem? hx)]
 ·rw [List.getElem?_set_ne hqk] at hq
  have hm := List.mem_of_getElem? hq
  show e.n = f e.id + (if x.id = e.id then d else 0)
  rw [hf e hm, if_neg (fun hid => ?_)]
  ·omega
  ·rcases Nat.lt_or_ge k q with h' | h'
   ·have := h.up k q x e h' hx hq; omega
   ·have := h.up q k e x (by omega) hq hx; omega
theorem put_room {st : List Ent} (h : Store st) {t : ByteArray} (ht : textOk t = true) (h8 : ∀ e ∈ st, e.tx = t → e.n ≠ 8) (hroom : st.length < 64) : (putS st t).2.2 = 0 := by
 rcases put_cases st t with ⟨e, he, hp⟩ | ⟨k, x, hs, hx, hxs, hx8, hp⟩ | ⟨hs, _, hnt, hl, hp⟩
 ·exfalso
  unfold putS at hp
  rw [of_store h, ht, if_neg (by decide)] at hp
  cases hfd : st[holdsN st t]? with
  | some e' =>
   rw [hfd] at hp
   simp only at hp
   rw [if_neg (h8 e' (List.mem_of_getElem? hfd) (holdsN_at hfd))] at hp
   simp only [Prod.mk.injEq] at hp
   exact he hp.2.2.symm
  | none =>
   rw [hfd] at hp
   simp only at hp
   rw [if_neg (by omega)] at hp
   simp only [Prod.mk.injEq] at hp
   exact he hp.2.2.symm
 ·rw [hp]
 ·rw [hp]
theorem get_mem {st : List Ent} (h : Store st) {e : Ent} (he : e ∈ st) : getS st e.id = (e.tx, true) := by
 obtain ⟨k, hk⟩ := List.mem_iff_getElem?.1 he
 exact get_some h hk
theorem put_held {st : List Ent} (h : Store st) {t : ByteArray} {f : Int → Int} (hf : HeldAs st f) (hok : (putS st t).2.2 = 0) (hz : (∀ e ∈ st, e.id ≠ (freeN st : Int)) → f (freeN st) = 0) :
  ∃ st' id, putS st t = (st', id, 0) ∧ Store st' ∧ HeldAs st' (fun i => f i + if id = i then 1 else 0) ∧ getS st' id = (t, true) ∧ (∀ x ∈ st, getS st' x.id = (x.tx, true)) ∧ st'.length ≤ st.length + 1 ∧ ((∀ e ∈ st, e.tx ≠ t) → st'.length = st.length + 1) := by
 have hno : ∀ e ∈ st, e.id ≠ (freeN st : Int) := fun e he hid => by
  obtain ⟨j, hj⟩ := List.mem_iff_getElem?.1 he
  have hsp := freeN_spec st
  rcases Nat.lt_or_ge j (freeN st) with h' | h'
  ·have := hsp.2.1 j e h' hj; omega
  ·have := free_above h h' hj; omega
 obtain ⟨l1, l2, l3⟩ := put_leaves st t hok
 rcases put_cases st t with ⟨e, he, hp⟩ | ⟨k, x, hs, hx, hxs, hx8, hp⟩ | ⟨hs, _, hnt, hl, hp⟩
 ·rw [hp] at hok; exact absurd hok he
 ·rw [hp] at l1 l2 l3
  simp only at l1 l2 l3
  refine ⟨_, _, hp, store_of l1, bump_held h hf hx 1, l2, fun y hy => ?_, by rw [bump_len]; omega, fun hc => absurd hxs (hc x (List.mem_of_getElem? hx))⟩
  obtain ⟨y', hy', e1, e2⟩ := key_mem (bump_key st k 1) hy
  rw [← e1, ← e2]
  exact get_mem (store_of l1) hy'
 ·rw [hp] at l1 l2 l3
  simp only at l1 l2 l3
  have hlen : (insE st t 1).length = st.length + 1 := by
   unfold insE
   rw [List.length_append, List.length_take, List.length_cons, List.length_drop]
   have := (freeN_spec st).1
   omega
  refine ⟨_, _, hp, store_of l1, fun e he => ?_, l2, fun y hy => get_mem (store_of l1) (ins_mem.2 (.inl hy)), Nat.le_of_eq hlen, fun _ => hlen⟩
  ·rcases ins_mem.1 he with he | rfl
   ·show e.n = f e.id + (if (freeN st : Int) = e.id then 1 else 0)
    rw [hf e he, if_neg (fun hid => hno e he hid.symm)]; omega
   ·simp only [if_true]
    rw [hz hno]; rfl
theorem store_filter {st : List Ent} (h : Store st) (p : Ent → Bool) : Store (st.filter p) := by
 have u : st.Pairwise (fun x y => x.id < y.id) := List.pairwise_iff_getElem.2 fun i j hi hj hij => h.up i j _ _ hij (List.getElem?_eq_getElem hi) (List.getElem?_eq_getElem hj)
 have o : st.Pairwise (fun x y => x.tx ≠ y.tx) := List.pairwise_iff_getElem.2 fun i j hi hj hij ht => by
  have := h.one i j _ _ (List.getElem?_eq_getElem hi) (List.getElem?_eq_getElem hj) ht
  omega
 replace u := u.filter p
 replace o := o.filter p
 refine ⟨Nat.le_trans (List.length_filter_le ..) h.len, fun e he => h.ok e (List.mem_filter.1 he).1, fun i j x y hij hx hy => ?_, fun i j x y hx hy ht => ?_⟩
 ·obtain ⟨hi, rfl⟩ := List.getElem?_eq_some_iff.1 hx
  obtain ⟨hj, rfl⟩ := List.getElem?_eq_some_iff.1 hy
  exact List.pairwise_iff_getElem.1 u i j hi hj hij
 ·obtain ⟨hi, rfl⟩ := List.getElem?_eq_some_iff.1 hx
  obtain ⟨hj, rfl⟩ := List.getElem?_eq_some_iff.1 hy
  rcases Nat.lt_trichotomy i j with h' | h' | h'
  ·exact absurd ht (List.pairwise_iff_getElem.1 o i j hi hj h')
  ·exact h'
  ·exact absurd ht.symm (List.pairwise_iff_getElem.1 o j i hj hi h')
theorem put2_held {st : List Ent} (h : Store st) {t : ByteArray} (ht : textOk t = true) {f : Int → Int} (hf : HeldAs st f) (h8 : ∀ e ∈ st, e.tx = t → e.n ≠ 8) (hz : ∀ i, (∀ e ∈ st, e.id ≠ i) → f i = 0) (hfew : (st.filter fun e => decide (e.n ≠ 0)).length < 64) :
  ∃ st' id, put2 st t = (st', id, 0) ∧ Store st' ∧ HeldAs st' (fun i => f i + if id = i then 1 else 0) ∧ getS st' id = (t, true) ∧ (∀ x ∈ st, x.n ≠ 0 → getS st' x.id = (x.tx, true)) ∧ (st'.length ≤ st.length + 1) ∧ ((∀ e ∈ st, e.tx ≠ t) → st.length < 64 → st'.length = st.length + 1) ∧ ((putS st t).2.2 ≠ 0 → st'.length ≤ (st.filter fun e => decide (e.n ≠ 0)).length + 1) := by
 by_cases hok : (putS st t).2.2 = 0
 ·obtain ⟨st', id, hp, h1, h2, h3, h4, h5, h6⟩ := put_held h hf hok (hz _)
  exact ⟨st', id, by unfold put2; rw [if_pos hok, hp], h1, h2, h3, fun x hx _ => h4 x hx, h5, fun hc _ => h6 hc, fun hc => absurd hok hc⟩
 ·have hs := store_filter h (fun e => decide (e.n ≠ 0))
  have hf' : HeldAs (st.filter fun e => decide (e.n ≠ 0)) f := fun e he => hf e (List.mem_filter.1 he).1
  have hok' := put_room hs ht (fun e he => h8 e (List.mem_filter.1 he).1) hfew
  obtain ⟨st', id, hp, h1, h2, h3, h4, h5, _⟩ := put_held hs hf' hok' fun hn => by
   by_cases he : ∃ e ∈ st, e.id = (freeN (st.filter fun e => decide (e.n ≠ 0)) : Int)
   ·obtain ⟨e, he, hid⟩ := he
    by_cases h0 : e.n = 0
    ·rw [← hid, ← hf e he, h0]
    ·exact absurd hid (hn e (List.mem_filter.2 ⟨he, by simpa using h0⟩))
   ·exact hz _ fun e hm hid => he ⟨e, hm, hid⟩
  refine ⟨st', id, by unfold put2; rw [if_neg hok, sweep_ok h, hp], h1, h2, h3, fun x hx hn => h4 x (List.mem_filter.2 ⟨hx, by simpa using hn⟩), ?_, fun _ hl => absurd (put_room h ht h8 hl) hok, fun _ => h5⟩
  have := List.length_filter_le (fun e : Ent => decide (e.n ≠ 0)) st
  omega
theorem drop_held {st : List Ent} (h : Store st) {f : Int → Int} (hf : HeldAs st f) {x : Ent} (hx : x ∈ st) (hn : x.n ≠ 0) :
  ∃ st', dropS st x.id = (st', 0) ∧ Store st' ∧ HeldAs st' (fun i => f i + if x.id = i then -1 else 0) ∧ (∀ i, getS st' i = getS st i) ∧ st'.length = st.length := by
 obtain ⟨k, hk⟩ := List.mem_iff_getElem?.1 hx
 have hr := ent_n h hk
 have hs := bump_store h hk (d := -1) (by omega)
 exact ⟨_, drop_at h hk hn, hs, bump_held h hf hk (-1), fun i => get_key h hs (bump_key st k (-1)) i, bump_len ..⟩
theorem span_k {c : Cfg} {k : Chk} (h : kFits c k = true) : 0 ≤ k.t ∧ k.t ≤ 32 := by
 unfold kFits memFits at h
 rw [Bool.and_eq_true] at h
 obtain ⟨_, _, _, _, _, h0, h1⟩ := chkMay_split h.1
 exact ⟨h0, h1⟩
theorem hyper_k {c : Cfg} {k : Chk} {r m : Int} (h : kFits c k = true) (hy : hyperMay r m = true) : kFits c ⟨k.ws, k.vs, r, m, k.t⟩ = true := by
 unfold kFits memFits at h ⊢
 rw [Bool.and_eq_true] at h ⊢
 refine ⟨?_, h.2⟩
 have h1 := h.1
 unfold chkMay at h1 ⊢
 simp only [Bool.and_eq_true, decide_eq_true_eq] at h1 ⊢
 exact ⟨⟨⟨h1.1.1.1, hy⟩, h1.1.2⟩, h1.2⟩
theorem textK_t {c : Cfg} {a b : Chk} (ha : kFits c a = true) (hb : kFits c b = true) (h : textK a = textK b) : a.t = b.t := by
 have la := kFits_len ha
 have lb := kFits_len hb
 have hl : a.ws.length = b.ws.length := by omega
 have ga := strOf_get (okB_put a.ws a.vs a.r a.m a.t) (putL_last la.1)
 have gb := strOf_get (okB_put b.ws b.vs b.r b.m b.t) (putL_last lb.1)
 unfold textK at h
 rw [h, hl, gb] at ga
 have sa := span_k ha
 have sb := span_k hb
 rw [lowK_plain sa.1 (by omega), lowK_plain sb.1 (by omega)] at ga
 simp only [Option.some.injEq, V.int.injEq, true_and] at ga
 exact ga.symm
theorem nodup_le : ∀ (l l' : List Int), l.Nodup → (∀ x ∈ l, x ∈ l') → l.length ≤ l'.length
 | [], _, _, _ => Nat.zero_le _
 | a :: l, l', hn, hs => by
  have ha := hs a (List.mem_cons_self ..)
  have hn' := List.nodup_cons.1 hn
  have := nodup_le l (l'.erase a) hn'.2 fun x hx => (List.mem_erase_of_ne (fun (h : x = a) => hn'.1 (h ▸ hx))).2 (hs x (List.mem_cons_of_mem _ hx))
  rw [List.length_erase_of_mem ha] at this
  have := List.length_pos_of_mem ha
  simp only [List.length_cons]; omega
theorem countOf_pos {ms : List (Chk × Int)} {m : Chk × Int} (h : m ∈ ms) : 1 ≤ countOf ms m.2 := by
 unfold countOf
 exact List.length_pos_of_mem (List.mem_filter.2 ⟨h, by simp⟩)
theorem countOf_some {ms : List (Chk × Int)} {id : Int} (h : countOf ms id ≠ 0) : ∃ m ∈ ms, m.2 = id := by
 apply Classical.byContradiction
 intro hc
 exact h (countOf_none fun m hm hid => hc ⟨m, hm, hid⟩)
theorem few_held {st : List Ent} (h : Store st) {ms : List (Chk × Int)} (hh : ∀ e ∈ st, e.n = (countOf ms e.id : Int)) : (st.filter fun e => decide (e.n ≠ 0)).length ≤ ms.length := by
 have hs := store_filter h (fun e => decide (e.n ≠ 0))
 have := nodup_le ((st.filter fun e => decide (e.n ≠ 0)).map (·.id)) (ms.map (·.2)) (by
  refine List.Pairwise.map _ (fun a b (h : a.id < b.id) => by show a.id ≠ b.id; omega) (List.pairwise_iff_getElem.2 fun i j hi hj hij => ?_)
  exact hs.up i j _ _ hij (List.getElem?_eq_getElem hi) (List.getElem?_eq_getElem hj)) (by
  intro x hx
  obtain ⟨e, he, rfl⟩ := List.mem_map.1 hx
  obtain ⟨he, hn⟩ := List.mem_filter.1 he
  obtain ⟨m, hm, hid⟩ := countOf_some (ms := ms) (id := e.id) (by have := hh e he; simp at hn; omega)
  exact List.mem_map.2 ⟨m, hm, hid⟩)
 simpa using this
theorem kept {s : St} (h : StOk s) {p : Nat} {o : Chk × Int} (ho : s.ms[p]? = some o) {k : Chk} (hk : kFits s.c k = true) (ht : k.t ≠ o.1.t) :
  ∃ st' st2 id, put2 s.st (textK k) = (st', id, 0) ∧ dropS st' o.2 = (st2, 0) ∧ Store st2 ∧ (∀ e ∈ st2, e.n = (countOf (s.ms.set p (k, id)) e.id : Int)) ∧ (∀ m ∈ s.ms.set p (k, id), getS st2 m.2 = (textK m.1, true)) ∧ st2.length ≤ s.st.length + 1 ∧ ((∀ e ∈ s.st, e.tx ≠ textK k) → s.st.length < 64 → st2.length = s.st.length + 1) ∧ ((putS s.st (textK k)).2.2 ≠ 0 → st2.length ≤ s.ms.length + 1) := by
 obtain ⟨hm, _⟩ := cfgMay_split h.c
 have hl := h.len
 have hom := List.mem_of_getElem? ho
 have hfew := few_held h.st h.held
 obtain ⟨st', id, hp, h1, h2, h3, h4, h5, h7, h6⟩ := put2_held h.st (textK_ok hk) (f := fun i => (countOf s.ms i : Int)) h.held
  (fun e he htx h8 => by
   have hn := h.held e he
   rw [h8] at hn
   have hall : ∀ m ∈ s.ms, m.2 = e.id := by
    have hlen : (s.ms.filter fun m => decide (m.2 = e.id)).length = s.ms.length := by
     have := List.length_filter_le (fun m : Chk × Int => decide (m.2 = e.id)) s.ms
     unfold countOf at hn
     omega
    have := List.length_filter_eq_length_iff.1 hlen
    intro m hm'
    simpa using this m hm'
   have hid := hall o hom
   have hg := h.head o hom
   rw [hid, get_mem h.st he] at hg
   have : e.tx = textK o.1 := congrArg Prod.fst hg
   exact ht (textK_t hk (h.fits o hom) (by rw [← htx, this])))
  (fun i hi => by
   have : countOf s.ms i = 0 := countOf_none fun m hm' hid => by
    obtain ⟨e, he, hid', _⟩ := getS_mem (h.head m hm')
    exact hi e he (by rw [hid', hid])
   simp [this])
  (by omega)
 obtain ⟨e, he, hid, htx⟩ := getS_mem (h.head o hom)
 have hpos := countOf_pos hom
 have hen : e.n ≠ 0 := by have := h.held e he; rw [hid] at this; omega
 obtain ⟨y, hy, hyid, _⟩ := getS_mem (h4 e he hen)
 have hyo : y.id = o.2 := by rw [hyid, hid]
 have hyn : y.n ≠ 0 := by
  have := h2 y hy
  simp only at this
  rw [hyo] at this
  split at this <;> omega
 obtain ⟨st2, hd, d1, d2, d3, d4⟩ := drop_held h1 h2 hy hyn
 rw [hyo] at hd d2
 refine ⟨st', st2, id, hp, hd, d1, fun x hx => ?_, fun m hm' => ?_, by omega, fun hc hl => by have := h7 hc hl; omega, fun hc => by have := h6 hc; omega⟩
 ·rw [countOf_set ho]
  have := d2 x hx
  simp only at this
  rw [this]
  split <;> split <;> omega
 ·rw [d3]
  rcases List.mem_or_eq_of_mem_set hm' with hm' | rfl
  ·obtain ⟨q, hq, hqid, hqt⟩ := getS_mem (h.head m hm')
   have hqp := countOf_pos hm'
   have hqn : q.n ≠ 0 := by have := h.held q hq; rw [hqid] at this; omega
   have := h4 q hq hqn
   rw [hqid, hqt] at this
   exact this
  ·exact h3
theorem train_fits {c : Cfg} {id : Int} {k : Chk} (hf : kFits c k = true) (ht : k.t < 32) : kFits c (trainK c id k) = true := by
 have h1 := kFits_len hf
 unfold kFits memFits at hf ⊢
 rw [Bool.and_eq_true] at hf ⊢
 obtain ⟨hvw, hvv, hlv, hl1, hhy, ht0, _⟩ := chkMay_split hf.1
 have l16 := vecMay_len hvw
 have e1 : (trainK c id k).ws.length = k.ws.length := by simp [trainK, nextL]
 have e2 : (trainK c id k).vs.length = k.ws.length := by simp [trainK, speedL]
 have m1 : vecMay (trainK c id k).ws = true := by
  simp only [vecMay, Bool.and_eq_true, decide_eq_true_eq, List.all_eq_true]
  refine ⟨by omega, fun b hb => ?_⟩
  simp only [trainK, nextL, List.mem_map] at hb
  obtain ⟨j, _, rfl⟩ := hb
  exact plus_may _ _
 have m2 : vecMay (trainK c id k).vs = true := by
  simp only [vecMay, Bool.and_eq_true, decide_eq_true_eq, List.all_eq_true]
  refine ⟨by omega, fun b hb => ?_⟩
  simp only [trainK, speedL, List.mem_map] at hb
  obtain ⟨j, _, rfl⟩ := hb
  exact plus_may _ _
 refine ⟨?_, ?_⟩
 ·unfold chkMay alike
  simp only [List.all_cons, List.all_nil, m1, m2, e1, e2, decide_true, Bool.and_true, Bool.true_and]
  have h2 : hyperMay (trainK c id k).r (trainK c id k).m = true := hhy
  have h3 : (trainK c id k).t = k.t + 1 := rfl
  rw [h2, h3]
  simp only [Bool.and_eq_true, decide_eq_true_eq, and_true]
  omega
 ·have h2 := hf.2
  unfold fits at h2 ⊢
  rw [Bool.and_eq_true, Bool.and_eq_true] at h2 ⊢
  exact ⟨⟨h2.1.1, m1⟩, by rw [e1]; exact h2.2⟩
theorem rowI {f : Nat → Int} {n i j c : Nat} (hi : (rankN f n)[i]? = some c) (hj : (rankN f n)[j]? = some c) : i = j := by
 have key : ∀ i j, (rankN f n)[i]? = some c → (rankN f n)[j]? = some c → i < j → False := fun i j hi hj h => by
  obtain ⟨l1, e1⟩ := List.getElem?_eq_some_iff.1 hi
  obtain ⟨l2, e2⟩ := List.getElem?_eq_some_iff.1 hj
  have := List.pairwise_iff_getElem.1 (rankN_sorted f n) i j l1 l2 h
  rw [e1, e2] at this
  exact before_irr f c this
 rcases Nat.lt_trichotomy i j with h | h | h
 ·exact (key i j hi hj h).elim
 ·exact h
 ·exact (key j i hj hi h).elim
theorem donor_in {ss : List Int} {m : Nat} {c x : Int} (h : (donorR ss (m : Int) c x).2.1 = true) : ∃ d : Nat, (donorR ss (m : Int) c x).1 = (d : Int) ∧ d < ss.length ∧ d ≠ m := by
 unfold donorR at h ⊢
 by_cases hok : donorOk ss (m : Int) c x = true
 ·rw [if_pos hok] at h ⊢
  by_cases hm : (m : Int) ∈ lastOnes ss c
  ·rw [if_pos (decide_eq_true hm)]
   unfold donorOk at hok
   simp only [Bool.and_eq_true, Bool.not_eq_true', decide_eq_false_iff_not] at hok
   obtain ⟨hr, h1, h2, h3, h4, h5, h6⟩ := hok
   obtain ⟨f1, _, _⟩ := rankL_len hr
   have f2 : rankL ss = rankN (scoreAt ss) ss.length := by unfold rankL; rw [hr]; rfl
   rw [f2]
   unfold lastOnes at hm
   rw [List.mem_map, f2] at hm
   obtain ⟨t, ht, htm⟩ := hm
   obtain ⟨i, hi⟩ := List.mem_iff_getElem?.1 ht
   rw [List.getElem?_drop] at hi
   have htm' : t = m := by omega
   subst htm'
   have hlen : (rankN (scoreAt ss) ss.length).length = ss.length := rankN_len _ _
   have hlt : x.toNat * c.toNat / 65536 < c.toNat := Nat.div_lt_of_lt_mul (by
    exact Nat.mul_lt_mul_of_pos_right (by omega) (by omega))
   have hlt2 : x.toNat * c.toNat / 65536 < (rankN (scoreAt ss) ss.length).length := by omega
   refine ⟨_, rfl, (rankN_mem (scoreAt ss) ss.length _).1 ?_, fun hc => ?_⟩
   ·rw [List.getD_eq_getElem?_getD, List.getElem?_eq_getElem hlt2]
    exact List.getElem_mem hlt2
   ·have : (rankN (scoreAt ss) ss.length)[x.toNat * c.toNat / 65536]? = some t := by
     rw [List.getD_eq_getElem?_getD] at hc
     rw [List.getElem?_eq_getElem hlt2] at hc ⊢
     simpa using hc
    have := rowI this hi
    omega
  ·rw [if_neg (by simpa using hm)] at h
   cases h
 ·rw [if_neg hok] at h
  cases h
theorem events_all {es : List Ev} {n : Int} (h : eventsMay es n = true) : within n 1 8 = true ∧ es.length ≤ 1024 ∧ ∀ (k : Nat) e, es[k]? = some e → evMay (es.take k) n e = true := by
 unfold eventsMay at h
 simp only [Bool.and_eq_true, decide_eq_true_eq, List.all_eq_true, List.mem_range] at h
 refine ⟨h.1.1, h.1.2, fun k e he => ?_⟩
 have := h.2 k (List.getElem?_eq_some_iff.1 he).1
 rw [he] at this
 exact this
theorem events_more {es : List Ev} {n : Int} {e : Ev} (h : eventsMay es n = true) (hl : es.length < 1024) (he : evMay es n e = true) : eventsMay (es ++ [e]) n = true := by
 obtain ⟨h1, h2, h3⟩ := events_all h
 refine eventsMay_yes h1 (by simp; omega) fun k x hx => ?_
 by_cases hk : k < es.length
 ·rw [List.getElem?_append_left hk] at hx
  rw [List.take_append_of_le_length (by omega)]
  exact h3 k x hx
 ·have : k = es.length := by have := (List.getElem?_eq_some_iff.1 hx).1; simp at this; omega
  subst this
  simp at hx
  subst hx
  rw [List.take_left]; exact he
theorem explored_more (es : List Ev) (e : Ev) (m : Int) : explored (es ++ [e]) m = if e.member = m then e.kind == 1 else explored es m := by
 have := explored_succ (es := es ++ [e]) (m := m) (k := es.length) (e := e) (by simp)
 rw [List.take_of_length_le (by simp), List.take_left] at this
 exact this
theorem msAt_some {ms : List (Chk × Int)} {p : Nat} {o : Chk × Int} (h : ms[p]? = some o) : msAt ms p = o := by
 unfold msAt
 rw [List.getD_eq_getElem?_getD, h]; rfl
theorem doTrain_eq {s : St} {p : Nat} {o : Chk × Int} (h : s.ms[p]? = some o) : doTrain s p = trainK s.c p o.1 := by unfold doTrain; rw [msAt_some h]
theorem ms1_at {s : St} {p : Nat} (hp : p < s.ms.length) (q : Nat) : (ms1 s p)[q]? = if q = p then some (doTrain s p, (msAt s.ms p).2) else s.ms[q]? := by
 unfold ms1
 by_cases hq : q = p
 ·subst hq; rw [List.getElem?_set_self hp, if_pos rfl]
 ·rw [List.getElem?_set_ne (Ne.symm hq), if_neg hq]
theorem trained {s : St} (h : StOk s) {p : Nat} {o : Chk × Int} (ho : s.ms[p]? = some o) (ht : o.1.t ≠ s.c.total) : kFits s.c (doTrain s p) = true ∧ (doTrain s p).t = o.1.t + 1 ∧ o.1.t + 1 ≤ s.c.total ∧ 0 ≤ o.1.t ∧ s.c.total ≤ 32 := by
 have hom := List.mem_of_getElem? ho
 have h1 := h.tot o hom
 have hf := h.fits o hom
 have hs := span_k hf
 obtain ⟨_, _, _, htot, _⟩ := cfgMay_split h.c
 rw [doTrain_eq ho]
 exact ⟨train_fits hf (by omega), rfl, by omega, hs.1, htot.2⟩
theorem ms1_fits {s : St} (h : StOk s) {p : Nat} {o : Chk × Int} (ho : s.ms[p]? = some o) (ht : o.1.t ≠ s.c.total) {m : Chk × Int} (hm : m ∈ ms1 s p) : kFits s.c m.1 = true := by
 unfold ms1 at hm
 rcases List.mem_or_eq_of_mem_set hm with hm | rfl
 ·exact h.fits m hm
 ·exact (trained h ho ht).1
theorem donor_at {s : St} {p : Nat} (hp : p < s.ms.length) (ht : takes s p = true) : ∃ d : Nat, (donor1 s p).1 = (d : Int) ∧ d < s.ms.length ∧ d ≠ p ∧ s.ms[d]? = some (msAt (ms1 s p) d) := by
 unfold takes at ht
 rw [Bool.and_eq_true] at ht
 obtain ⟨d, h1, h2, h3⟩ := donor_in (show (donor1 s p).2.1 = true from ht.2)
 have h2' : d < s.ms.length := by simpa [ms1] using h2
 refine ⟨d, h1, h2', h3, ?_⟩
 have := ms1_at hp d
 rw [if_neg h3] at this
 rw [← this, msAt_some (o := s.ms[d]'h2') (by rw [this]; exact List.getElem?_eq_getElem h2'), this]
 exact List.getElem?_eq_getElem h2'
theorem chk2_t (s : St) (p : Nat) : (chk2 s p).t = (doTrain s p).t := by unfold chk2; split <;> rfl
theorem chk2_fits {s : St} (h : StOk s) {p : Nat} {o : Chk × Int} (ho : s.ms[p]? = some o) (ht : o.1.t ≠ s.c.total) : kFits s.c (chk2 s p) = true := by
 have hp := (List.getElem?_eq_some_iff.1 ho).1
 obtain ⟨t1, t2, t3, t4, t5⟩ := trained h ho ht
 unfold chk2
 split
 ·rename_i htk
  obtain ⟨d, h1, h2, h3, h4⟩ := donor_at hp htk
  have hd : dChk s p = (msAt (ms1 s p) d).1 := by unfold dChk; rw [h1]; rfl
  have hf := h.fits _ (List.mem_of_getElem? h4)
  rw [← hd] at hf
  have := hyper_k hf (r := (hyp2 s p).1) (m := (hyp2 s p).2) (tried_may ..)
  exact kFits_t this (t := (doTrain s p).t) (by omega)
 ·exact t1
theorem es2_len (s : St) (p : Nat) : (es2 s p).length = s.es.length + (if takes s p = true then 3 else 1) := by
 unfold es2 es1
 split <;> simp
theorem es2_may {s : St} (h : StOk s) {p : Nat} {o : Chk × Int} (ho : s.ms[p]? = some o) (hl : s.es.length + 4 ≤ 1024) : eventsMay (es2 s p) s.c.m = true := by
 have hp := (List.getElem?_eq_some_iff.1 ho).1
 have hlen := h.len
 have e1 : eventsMay (es1 s p) s.c.m = true := events_more h.es (by omega) (by
  simp [evMay, within]; omega)
 unfold es2
 split
 ·rename_i htk
  obtain ⟨d, h1, h2, h3, _⟩ := donor_at hp htk
  have hl1 : (es1 s p).length = s.es.length + 1 := by simp [es1]
  rw [show es1 s p ++ [⟨1, (p : Int), (donor1 s p).1, (manyOf (es1 s p) (donor1 s p).1 : Nat), 0, 0⟩, ⟨2, p, 0, 0, (hyp2 s p).1, (hyp2 s p).2⟩] = (es1 s p ++ [⟨1, (p : Int), (donor1 s p).1, (manyOf (es1 s p) (donor1 s p).1 : Nat), 0, 0⟩]) ++ [⟨2, p, 0, 0, (hyp2 s p).1, (hyp2 s p).2⟩] by simp]
  refine events_more (events_more e1 (by omega) ?_) (by simp; omega) ?_
  ·rw [evMay_1 rfl]
   simp only [Bool.and_eq_true, within_iff, bne_iff_ne, beq_iff_eq, h1]
   refine ⟨by omega, ⟨⟨by omega, by omega⟩, trivial⟩, ?_⟩
   first | exact ⟨rfl, rfl⟩ | trivial
  ·rw [evMay_2 rfl]
   simp only [Bool.and_eq_true, within_iff, beq_iff_eq, explored_more, if_pos]
   refine ⟨by omega, ⟨?_, tried_may ..⟩, ?_⟩ <;> first | trivial | exact ⟨rfl, rfl⟩ | rfl
 ·exact e1
theorem do_ok {s : St} (h : StOk s) {p : Nat} {o : Chk × Int} (ho : s.ms[p]? = some o) (ht : o.1.t ≠ s.c.total) (hl : s.es.length + 4 ≤ 1024) : StOk (doS s p) ∧ (put2 s.st (textK (chk2 s p))).2.2 = 0 ∧ (dropS (put2 s.st (textK (chk2 s p))).1 o.2).2 = 0 ∧ (st2 s p).length ≤ s.st.length + 1 ∧ ((∀ e ∈ s.st, e.tx ≠ textK (chk2 s p)) → s.st.length < 64 → (st2 s p).length = s.st.length + 1) ∧ ((putS s.st (textK (chk2 s p))).2.2 ≠ 0 → (st2 s p).length ≤ s.ms.length + 1) := by
 obtain ⟨t1, t2, t3, t4, t5⟩ := trained h ho ht
 have hf := chk2_fits h ho ht
 have hct := chk2_t s p
 obtain ⟨st', st2', id, hp, hd, k1, k2, k3, k4, k6, k5⟩ := kept h ho hf (by omega)
 have eid : head2 s p = id := by unfold head2; rw [hp]
 have est : st2 s p = st2' := by unfold st2; rw [hp, msAt_some ho, hd]
 refine ⟨⟨h.c, ?_, fun m hm => ?_, fun m hm => ?_, es2_may h ho hl, ?_, fun m hm => ?_, fun e he => ?_⟩, by rw [hp], by rw [hp]; simp only; rw [hd], by rw [est]; exact k4, by rw [est]; exact k6, by rw [est]; exact k5⟩
 ·show ((s.ms.set p (chk2 s p, head2 s p)).length : Int) = s.c.m
  rw [List.length_set]; exact h.len
 ·rcases List.mem_or_eq_of_mem_set hm with hm | rfl
  ·exact h.fits m hm
  ·exact hf
 ·show m.1.t ≤ s.c.total
  rcases List.mem_or_eq_of_mem_set hm with hm | rfl
  ·exact h.tot m hm
  ·show (chk2 s p).t ≤ _
   omega
 ·show Store (st2 s p)
  rw [est]; exact k1
 ·show getS (st2 s p) m.2 = _
  rw [est]
  refine k3 m ?_
  rw [← eid]
  exact hm
 ·have he' : e ∈ st2' := by rw [← est]; exact he
  have := k2 e he'
  rw [← eid] at this
  exact this
theorem wrap_m1 {m : Int} (h : 2 ≤ m ∧ m ≤ 8) : IntKind.i64.wrap (m - 1) = m - 1 := by rw [wrap_i64] <;> omega
theorem doOk_split {s : St} {pick : Int} (h : doOk s pick = true) : StOk s ∧ s.es.length + 4 ≤ 1024 ∧ ∃ p : Nat, ∃ o, pick = (p : Int) ∧ s.ms[p]? = some o := by
 unfold doOk at h
 simp only [Bool.and_eq_true, decide_eq_true_eq] at h
 obtain ⟨⟨h1, h2⟩, h3⟩ := h
 have hs := stOk_of h1
 obtain ⟨hm, _⟩ := cfgMay_split hs.c
 rw [wrap_m1 hm, within_iff] at h2
 have hl := hs.len
 have hp : pick.toNat < s.ms.length := by omega
 exact ⟨hs, h3, pick.toNat, _, by omega, List.getElem?_eq_getElem hp⟩
theorem doOk_of {s : St} (h : StOk s) {p : Nat} {o : Chk × Int} (ho : s.ms[p]? = some o) (hl : s.es.length + 4 ≤ 1024) : doOk s (p : Int) = true := by
 obtain ⟨hm, _⟩ := cfgMay_split h.c
 have hlen := h.len
 have hp := (List.getElem?_eq_some_iff.1 ho).1
 unfold doOk
 rw [of_stOk h, wrap_m1 hm, within_iff.2 (by omega), decide_eq_true hl]; rfl
structure Picks (s : St) (p : Nat) (o : Chk × Int) : Prop where
 ok : StOk s
 at_ : s.ms[p]? = some o
 t : o.1.t ≠ s.c.total
 room : s.es.length + 4 ≤ 1024
theorem doR_of {s : St} {p : Nat} {o : Chk × Int} (h : Picks s p o) : doR s (p : Int) = (doS s p, 0) := by
 unfold doR
 rw [if_pos (doOk_of h.ok h.at_ h.room), if_neg (by rw [Int.toNat_natCast, msAt_some h.at_]; exact h.t), Int.toNat_natCast]
theorem doR_cases (s : St) (pick : Int) : (∃ (p : Nat) (o : Chk × Int), pick = (p : Int) ∧ Picks s p o ∧ doR s pick = (doS s p, 0)) ∨ (∃ e, e ≠ 0 ∧ doR s pick = (noSt, e)) := by
 by_cases h : doOk s pick = true
 ·obtain ⟨h1, h2, p, o, rfl, ho⟩ := doOk_split h
  by_cases ht : o.1.t = s.c.total
  ·refine .inr ⟨2301, by decide, ?_⟩
   unfold doR
   rw [if_pos h, if_pos (by rw [Int.toNat_natCast, msAt_some ho]; exact ht)]
  ·have hp : Picks s p o := ⟨h1, ho, ht, h2⟩
   exact .inl ⟨p, o, rfl, hp, doR_of hp⟩
 ·refine .inr ⟨2300, by decide, ?_⟩
  unfold doR
  rw [if_neg h]
structure Turned (s : St) (p : Nat) (o : Chk × Int) (a : St) : Prop where
 may : stateMay a = true
 c : a.c = s.c
 len : a.ms.length = s.ms.length
 more : s.es.length < a.es.length ∧ a.es.length ≤ s.es.length + 3
 rest : ∀ i, i ≠ p → a.ms[i]? = s.ms[i]?
 own : ∃ x, a.ms[p]? = some x ∧ x.1.t = o.1.t + 1
 evs : ∀ (i : Nat) e, s.es.length ≤ i → a.es[i]? = some e → e.member = p
 same : a.es.take s.es.length = s.es
 ready : ∀ x, a.ms[p]? = some x → x.1.t.tmod s.c.interval ≠ 0 → a.es.length = s.es.length + 1
 kinds : a.es.length = s.es.length + 1 ∨ (a.es.length = s.es.length + 3 ∧ (∃ e, a.es[s.es.length + 1]? = some e ∧ e.kind = 1) ∧ ∃ e, a.es[s.es.length + 2]? = some e ∧ e.kind = 2)
theorem do_turned {s : St} {p : Nat} {o : Chk × Int} (h : Picks s p o) : Turned s p o (doS s p) := by
 have hp := (List.getElem?_eq_some_iff.1 h.at_).1
 obtain ⟨t1, t2, t3, t4, t5⟩ := trained h.ok h.at_ h.t
 have hct := chk2_t s p
 have hl := es2_len s p
 refine ⟨of_stOk (do_ok h.ok h.at_ h.t h.room).1, rfl, by show (s.ms.set p _).length = _; rw [List.length_set], ?_, fun i hi => ?_, ⟨(chk2 s p, head2 s p), ?_, by show (chk2 s p).t = _; omega⟩, fun i e hi he => ?_, ?_, fun x hx hn => ?_, ?_⟩
 ·show s.es.length < (es2 s p).length ∧ (es2 s p).length ≤ _
  rw [hl]; split <;> omega
 ·show (s.ms.set p _)[i]? = _
  rw [List.getElem?_set_ne (Ne.symm hi)]
 ·show (s.ms.set p _)[p]? = _
  rw [List.getElem?_set_self hp]
 ·have he' : (es2 s p)[i]? = some e := he
  unfold es2 es1 at he'
  split at he'
  ·rw [List.append_assoc, List.getElem?_append_right hi] at he'
   have := List.mem_of_getElem? he'
   simp only [List.cons_append, List.nil_append, List.mem_cons, List.not_mem_nil, or_false] at this
   rcases this with rfl | rfl | rfl <;> rfl
  ·rw [List.getElem?_append_right hi] at he'
   have := List.mem_of_getElem? he'
   simp only [List.mem_cons, List.not_mem_nil, or_false] at this
   subst this; rfl
 ·show (es2 s p).take _ = _
  unfold es2 es1
  split
  ·rw [List.append_assoc, List.take_left]
  ·rw [List.take_left]
 ·have hx' : (s.ms.set p (chk2 s p, head2 s p))[p]? = some x := hx
  rw [List.getElem?_set_self hp] at hx'
  cases hx'
  have hn' : (doTrain s p).t.tmod s.c.interval ≠ 0 := by rw [← hct]; exact hn
  show (es2 s p).length = _
  rw [hl, if_neg (by unfold takes; rw [decide_eq_false hn']; simp)]
 ·show (es2 s p).length = _ ∨ ((es2 s p).length = _ ∧ (∃ e, (es2 s p)[_]? = _ ∧ _) ∧ ∃ e, (es2 s p)[_]? = _ ∧ _)
  rw [hl]
  by_cases htk : takes s p = true
  ·rw [if_pos htk]
   refine .inr ⟨rfl, ?_, ?_⟩
   ·unfold es2 es1
    rw [if_pos htk, List.append_assoc, List.getElem?_append_right (by omega), show s.es.length + 1 - s.es.length = 1 by omega]
    exact ⟨_, rfl, rfl⟩
   ·unfold es2 es1
    rw [if_pos htk, List.append_assoc, List.getElem?_append_right (by omega), show s.es.length + 2 - s.es.length = 2 by omega]
    exact ⟨_, rfl, rfl⟩
  ·rw [if_neg htk]; exact .inl rfl
theorem do_plain {s : St} {p : Nat} (h : (doTrain s p).t.tmod s.c.interval ≠ 0) : doS s p = ⟨s.c, s.ms.set p (doTrain s p, head2 s p), es1 s p, st2 s p⟩ := by
 have : takes s p = false := by unfold takes; rw [decide_eq_false h]; rfl
 unfold doS chk2 es2
 rw [if_neg (by rw [this]; decide), if_neg (by rw [this]; decide)]
theorem alone {s : St} (h : StOk s) {p q : Nat} {o r : Chk × Int} (ho : s.ms[p]? = some o) (hr : s.ms[q]? = some r) (hpq : p ≠ q) (ht : o.1.t ≠ s.c.total) (hu : r.1.t ≠ s.c.total) (h1 : (o.1.t + 1).tmod s.c.interval ≠ 0) (h2 : (r.1.t + 1).tmod s.c.interval ≠ 0) (hl : s.es.length + 8 ≤ 1024) :
  Picks s p o ∧ Picks (doS s p) q r ∧ (doS (doS s p) q).ms.map (·.1) = (s.ms.set p (trainK s.c p o.1, 0) |>.set q (trainK s.c q r.1, 0)).map (·.1) := by
 have hp : Picks s p o := ⟨h, ho, ht, by omega⟩
 have hd := do_turned hp
 have hr' : (doS s p).ms[q]? = some r := by rw [hd.rest q (Ne.symm hpq)]; exact hr
 have hq : Picks (doS s p) q r := ⟨stOk_of hd.may, hr', by rw [hd.c]; exact hu, by have := hd.more; omega⟩
 refine ⟨hp, hq, ?_⟩
 have e1 := do_plain (s := s) (p := p) (by rw [doTrain_eq ho]; exact h1)
 have e2 := do_plain (s := doS s p) (p := q) (by rw [doTrain_eq hr', hd.c]; exact h2)
 rw [e2]
 simp only [List.map_set, doTrain_eq hr', hd.c]
 rw [e1]
 simp only [List.map_set, doTrain_eq ho]
end Go.Proofs.YtaofdhgkgklppaaGreat.VM
