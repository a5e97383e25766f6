/- Joined texts: StoreL, StoreM, TrainH, StoreN, StoreO, StoreQ, StoreR. -/
import Derived.Test.YtekifjeckbndiaaJS8
/- Layer 15, the plain law: what Put, Drop, Sweep leave. -/
namespace Go.Proofs.Ytekifjeckbndiaa.VM
open Go
set_option linter.unusedVariables false
set_option linter.unusedSimpArgs false
attribute [local irreducible] wq wqL wqD wqE wqO Th Bk EndR
set_option maxHeartbeats 8000000

def keyE (e : Ent) : Int × ByteArray := (e.id, e.tx)
theorem store_key {es es' : List Ent} (h : Store es) (hk : es'.map keyE = es.map keyE) (ho : ∀ e ∈ es', entOk e = true) : Store es' := by
  have hl : es'.length = es.length := by have := congrArg List.length hk; simpa using this
  have at_ : ∀ (i : Nat) x, es'[i]? = some x → ∃ y, es[i]? = some y ∧ y.id = x.id ∧ y.tx = x.tx := fun i x hx => by
    have h1 : (es'.map keyE)[i]? = some (keyE x) := by rw [List.getElem?_map, hx]; rfl
    rw [hk, List.getElem?_map] at h1
    cases hy : es[i]? with
    | none => rw [hy] at h1; cases h1
    | some y =>
      rw [hy] at h1
      have := Option.some.inj h1
      unfold keyE at this
      exact ⟨y, rfl, by rw [(Prod.mk.inj this).1], by rw [(Prod.mk.inj this).2]⟩
  refine ⟨by rw [hl]; exact h.len, ho, fun i j x y hij hx hy => ?_, fun i j x y hx hy he => ?_⟩
  · obtain ⟨x', a1, a2, _⟩ := at_ i x hx
    obtain ⟨y', b1, b2, _⟩ := at_ j y hy
    have := h.up i j x' y' hij a1 b1
    omega
  · obtain ⟨x', a1, _, a3⟩ := at_ i x hx
    obtain ⟨y', b1, _, b3⟩ := at_ j y hy
    exact h.one i j x' y' a1 b1 (by rw [a3, b3, he])
theorem bump_key (es : List Ent) (k : Nat) (d : Int) : (bump es k d).map keyE = es.map keyE := by
  unfold bump
  split
  · rfl
  · rename_i e he
    rw [List.map_set]
    apply List.ext_getElem?
    intro i
    by_cases hi : k = i
    · subst hi
      rw [List.getElem?_set_self (by simpa using (List.getElem?_eq_some_iff.1 he).1), List.getElem?_map, he]; rfl
    · rw [List.getElem?_set_ne hi]
theorem bump_store {es : List Ent} (h : Store es) {k : Nat} {e : Ent} (he : es[k]? = some e) {d : Int} (hd : 0 ≤ e.n + d ∧ e.n + d ≤ 8) : Store (bump es k d) := by
  refine store_key h (bump_key es k d) fun x hx => ?_
  rw [bump_at d he] at hx
  rcases List.mem_or_eq_of_mem_set hx with hx | rfl
  · exact h.ok x hx
  · have := h.ok e (List.mem_of_getElem? he)
    unfold entOk at this ⊢
    simp only [Bool.and_eq_true, within_iff] at this ⊢
    exact ⟨this.1, hd⟩
theorem bump_len (es : List Ent) (k : Nat) (d : Int) : (bump es k d).length = es.length := by
  have := congrArg List.length (bump_key es k d); simpa using this
theorem bump_back {es : List Ent} {k : Nat} {e : Ent} (he : es[k]? = some e) : bump (bump es k 1) k (-1) = es := by
  have hlt := (List.getElem?_eq_some_iff.1 he).1
  rw [bump_at (-1) (e := ⟨e.id, e.tx, e.n + 1⟩) (by rw [bump_at 1 he, List.getElem?_set_self hlt]), bump_at 1 he, List.set_set]
  apply List.ext_getElem?
  intro i
  by_cases hi : k = i
  · subst hi
    rw [List.getElem?_set_self hlt, he]
    congr 1
    obtain ⟨a, b, c⟩ := e
    simp only
    congr 1
    omega
  · rw [List.getElem?_set_ne hi]

/-- numbers in a store -/
theorem findN_at {es : List Ent} (h : Store es) {k : Nat} {e : Ent} (he : es[k]? = some e) : findN es e.id = k := by
  have hlt := (List.getElem?_eq_some_iff.1 he).1
  unfold findN
  rw [List.findIdx_eq hlt]
  have hel : es[k] = e := by rw [List.getElem?_eq_getElem hlt] at he; exact Option.some.inj he
  refine ⟨by rw [hel]; exact decide_eq_true rfl, fun j hj => ?_⟩
  have := h.up j k (es[j]'(by omega)) e hj (by simp) he
  simp; omega
theorem get_some {es : List Ent} (h : Store es) {k : Nat} {e : Ent} (he : es[k]? = some e) : getS es e.id = (e.tx, true) := by
  unfold getS
  rw [of_store h, if_neg (by decide), findN_at h he, he]
theorem get_none {es : List Ent} (h : Store es) {id : Int} (hn : ∀ e ∈ es, e.id ≠ id) : getS es id = (⟨#[]⟩, false) := by
  unfold getS
  rw [of_store h, if_neg (by decide)]
  cases hf : es[findN es id]? with
  | none => rfl
  | some e =>
    have hlt := (List.getElem?_eq_some_iff.1 hf).1
    have := List.findIdx_getElem (xs := es) (p := fun e : Ent => decide (e.id = id)) (w := hlt)
    have hel : es[findN es id] = e := by rw [List.getElem?_eq_getElem hlt] at hf; exact Option.some.inj hf
    exact absurd (by rw [← hel]; exact of_decide_eq_true this) (hn e (List.mem_of_getElem? hf))
/-- two stores tell the same of a number -/
theorem get_same {es es' : List Ent} (h : Store es) (h' : Store es') {id : Int} (h1 : ∀ e ∈ es, e.id = id → ∃ x ∈ es', x.id = id ∧ x.tx = e.tx) (h2 : ∀ x ∈ es', x.id = id → ∃ e ∈ es, e.id = id) : getS es' id = getS es id := by
  by_cases hx : ∃ e ∈ es, e.id = id
  · obtain ⟨e, he, hid⟩ := hx
    obtain ⟨x, hxm, hxi, hxt⟩ := h1 e he hid
    obtain ⟨i, hi⟩ := List.mem_iff_getElem?.1 he
    obtain ⟨j, hj⟩ := List.mem_iff_getElem?.1 hxm
    have a := get_some h hi
    have b := get_some h' hj
    rw [hid] at a
    rw [hxi] at b
    rw [a, b, hxt]
  · rw [get_none h fun e he hid => hx ⟨e, he, hid⟩, get_none h' fun x hxm hid => hx (h2 x hxm hid)]
theorem key_mem {es es' : List Ent} (hk : es'.map keyE = es.map keyE) {e : Ent} (he : e ∈ es) : ∃ x ∈ es', x.id = e.id ∧ x.tx = e.tx := by
  have : keyE e ∈ es'.map keyE := by rw [hk]; exact List.mem_map_of_mem he
  obtain ⟨x, hx, hxe⟩ := List.mem_map.1 this
  unfold keyE at hxe
  exact ⟨x, hx, (Prod.mk.inj hxe).1, (Prod.mk.inj hxe).2⟩
theorem get_key {es es' : List Ent} (h : Store es) (h' : Store es') (hk : es'.map keyE = es.map keyE) (id : Int) : getS es' id = getS es id :=
  get_same h h' (fun e he hid => by
    obtain ⟨x, a, b, c⟩ := key_mem hk he
    exact ⟨x, a, by rw [b, hid], c⟩) fun x hx hid => by
    obtain ⟨e, a, b, _⟩ := key_mem hk.symm hx
    exact ⟨e, a, by rw [b, hid]⟩

theorem freeFrom_spec : ∀ (es : List Ent) (k : Nat), ∃ d, freeFrom es k = k + d ∧ d ≤ es.length ∧ (∀ (j : Nat) e, j < d → es[j]? = some e → e.id = ((k + j : Nat) : Int)) ∧ (∀ e, es[d]? = some e → e.id ≠ ((k + d : Nat) : Int))
  | [], k => ⟨0, rfl, by simp, by intro j e h; omega, by simp⟩
  | e :: es, k => by
    by_cases he : e.id = (k : Int)
    · obtain ⟨d, h1, h2, h3, h4⟩ := freeFrom_spec es (k + 1)
      refine ⟨d + 1, ?_, by simpa using h2, fun j x hj hx => ?_, fun x hx => ?_⟩
      · simp only [freeFrom, he, if_true]
        rw [h1]; omega
      · cases j with
        | zero => simp at hx; subst hx; simpa using he
        | succ j =>
          have := h3 j x (by omega) (by simpa using hx)
          rw [this]; congr 1; omega
      · have := h4 x (by simpa using hx)
        rw [show k + (d + 1) = k + 1 + d by omega]
        exact this
    · refine ⟨0, ?_, Nat.zero_le _, by intro j x h; omega, fun x hx => ?_⟩
      · simp only [freeFrom, he, if_false]; rfl
      · simp at hx; subst hx; simpa using he
theorem freeN_spec (es : List Ent) : freeN es ≤ es.length ∧ (∀ (j : Nat) e, j < freeN es → es[j]? = some e → e.id = (j : Int)) ∧ (∀ e, es[freeN es]? = some e → e.id ≠ (freeN es : Int)) := by
  obtain ⟨d, h1, h2, h3, h4⟩ := freeFrom_spec es 0
  have : freeN es = d := by unfold freeN; rw [h1]; omega
  rw [this]
  refine ⟨h2, fun j e hj he => by have := h3 j e hj he; rw [this]; congr 1; omega, fun e he => by have := h4 e he; rwa [Nat.zero_add] at this⟩
/-- behind the place that is free all numbers are greater -/
theorem free_above {es : List Ent} (h : Store es) {j : Nat} {e : Ent} (hj : freeN es ≤ j) (he : es[j]? = some e) : (freeN es : Int) < e.id := by
  obtain ⟨h1, h2, h3⟩ := freeN_spec es
  have base : ∀ x, es[freeN es]? = some x → (freeN es : Int) < x.id := fun x hx => by
    have hne := h3 x hx
    have hok := h.ok x (List.mem_of_getElem? hx)
    unfold entOk at hok
    simp only [Bool.and_eq_true, within_iff] at hok
    have hge : (freeN es : Int) ≤ x.id := by
      cases hz : freeN es with
      | zero => exact hok.1.1.1
      | succ m =>
        rw [hz] at hx h2
        have hlt := (List.getElem?_eq_some_iff.1 hx).1
        have hp : es[m]? = some (es[m]'(by omega)) := by simp
        have a := h2 m _ (Nat.lt_succ_self m) hp
        have b := h.up m (m + 1) _ x (Nat.lt_succ_self m) hp hx
        omega
    omega
  rcases Nat.lt_or_eq_of_le hj with h4 | h4
  · have hlt := (List.getElem?_eq_some_iff.1 he).1
    have hp : es[freeN es]? = some (es[freeN es]'(by omega)) := by simp
    have a := base _ hp
    have b := h.up _ _ _ e h4 hp he
    omega
  · subst h4; exact base e he
def insE (es : List Ent) (s : ByteArray) (n : Int) : List Ent := es.take (freeN es) ++ ⟨(freeN es : Int), s, n⟩ :: es.drop (freeN es)
theorem ins_get {es : List Ent} (s : ByteArray) (n : Int) {i : Nat} {x : Ent} (hx : (insE es s n)[i]? = some x) : (i < freeN es ∧ es[i]? = some x) ∨ (i = freeN es ∧ x = ⟨(freeN es : Int), s, n⟩) ∨ (freeN es < i ∧ es[i - 1]? = some x) := by
  have h1 := (freeN_spec es).1
  have hl : (es.take (freeN es)).length = freeN es := by rw [List.length_take]; omega
  unfold insE at hx
  by_cases hi : i < freeN es
  · rw [List.getElem?_append_left (by omega), List.getElem?_take, if_pos hi] at hx
    exact .inl ⟨hi, hx⟩
  · rw [List.getElem?_append_right (by omega), hl] at hx
    by_cases hi2 : i = freeN es
    · subst hi2
      rw [Nat.sub_self] at hx
      simp at hx
      exact .inr (.inl ⟨rfl, hx.symm⟩)
    · obtain ⟨d, hd⟩ : ∃ d, i - freeN es = d + 1 := ⟨i - freeN es - 1, by omega⟩
      rw [hd, List.getElem?_cons_succ, List.getElem?_drop] at hx
      refine .inr (.inr ⟨by omega, ?_⟩)
      rw [show i - 1 = freeN es + d by omega]
      exact hx
theorem ins_store {es : List Ent} (h : Store es) {s : ByteArray} {n : Int} (ht : textOk s = true) (hn : 0 ≤ n ∧ n ≤ 8) (hno : ∀ e ∈ es, e.tx ≠ s) (hl : es.length < 64) : Store (insE es s n) := by
  obtain ⟨h1, h2, h3⟩ := freeN_spec es
  refine ⟨?_, fun e he => ?_, fun i j x y hij hx hy => ?_, fun i j x y hx hy he => ?_⟩
  · unfold insE
    simp only [List.length_append, List.length_cons, List.length_take, List.length_drop]; omega
  · obtain ⟨i, hi⟩ := List.mem_iff_getElem?.1 he
    rcases ins_get s n hi with ⟨_, g⟩ | ⟨_, rfl⟩ | ⟨_, g⟩
    · exact h.ok e (List.mem_of_getElem? g)
    · show (within (freeN es : Int) 0 1024 && textOk s && within n 0 8) = true
      rw [ht, within_iff.2 ⟨by omega, by omega⟩, within_iff.2 hn]; rfl
    · exact h.ok e (List.mem_of_getElem? g)
  · rcases ins_get s n hx with ⟨a1, a2⟩ | ⟨a1, rfl⟩ | ⟨a1, a2⟩ <;> rcases ins_get s n hy with ⟨b1, b2⟩ | ⟨b1, rfl⟩ | ⟨b1, b2⟩
    · exact h.up i j x y hij a2 b2
    · have := h2 i x a1 a2
      simp only; omega
    · exact h.up i (j - 1) x y (by omega) a2 b2
    · omega
    · omega
    · have := free_above h (j := j - 1) (by omega) b2
      simp only; omega
    · omega
    · omega
    · exact h.up (i - 1) (j - 1) x y (by omega) a2 b2
  · rcases ins_get s n hx with ⟨a1, a2⟩ | ⟨a1, rfl⟩ | ⟨a1, a2⟩ <;> rcases ins_get s n hy with ⟨b1, b2⟩ | ⟨b1, rfl⟩ | ⟨b1, b2⟩
    · exact h.one i j x y a2 b2 he
    · exact absurd he (hno x (List.mem_of_getElem? a2))
    · have := h.one i (j - 1) x y a2 b2 he; omega
    · exact absurd he.symm (hno y (List.mem_of_getElem? b2))
    · omega
    · exact absurd he.symm (hno y (List.mem_of_getElem? b2))
    · have := h.one (i - 1) j x y a2 b2 he; omega
    · exact absurd he (hno x (List.mem_of_getElem? a2))
    · have := h.one (i - 1) (j - 1) x y a2 b2 he; omega
theorem ins_mem {es : List Ent} {s : ByteArray} {n : Int} {e : Ent} : e ∈ insE es s n ↔ e ∈ es ∨ e = ⟨(freeN es : Int), s, n⟩ := by
  unfold insE
  rw [List.mem_append, List.mem_cons]
  constructor
  · rintro (h | rfl | h)
    · exact .inl (List.mem_of_mem_take h)
    · exact .inr rfl
    · exact .inl (List.mem_of_mem_drop h)
  · rintro (h | rfl)
    · rw [← List.take_append_drop (freeN es) es, List.mem_append] at h
      rcases h with h | h
      · exact .inl h
      · exact .inr (.inr h)
    · exact .inr (.inl rfl)
theorem ins_at (es : List Ent) (s : ByteArray) (n : Int) : (insE es s n)[freeN es]? = some ⟨(freeN es : Int), s, n⟩ := by
  have h1 := (freeN_spec es).1
  unfold insE
  rw [List.getElem?_append_right (by rw [List.length_take]; omega), List.length_take, Nat.min_eq_left h1, Nat.sub_self]; rfl

/-- the three ends of Put -/
theorem put_cases (es : List Ent) (s : ByteArray) :
    (∃ e, e ≠ 0 ∧ putS es s = ([], 0, e)) ∨
    (∃ k x, Store es ∧ es[k]? = some x ∧ x.tx = s ∧ x.n ≠ 8 ∧ putS es s = (bump es k 1, x.id, 0)) ∨
    (Store es ∧ textOk s = true ∧ (∀ e ∈ es, e.tx ≠ s) ∧ es.length < 64 ∧ putS es s = (insE es s 1, (freeN es : Int), 0)) := by
  by_cases hm : (storeMay es && textOk s) = true
  · rw [Bool.and_eq_true] at hm
    have h := store_of hm.1
    have hdef : putS es s = (match es[holdsN es s]? with
      | some e => if e.n = 8 then ([], 0, 1501) else (bump es (holdsN es s) 1, e.id, 0)
      | none => if es.length = 64 then ([], 0, 1501) else (insE es s 1, (freeN es : Int), 0)) := by
      unfold putS
      rw [hm.1, hm.2, if_neg (by decide)]
      cases es[holdsN es s]? <;> rfl
    cases hf : es[holdsN es s]? with
    | some e =>
      rw [hf] at hdef
      simp only at hdef
      by_cases h8 : e.n = 8
      · rw [if_pos h8] at hdef
        exact .inl ⟨1501, by decide, hdef⟩
      · rw [if_neg h8] at hdef
        exact .inr (.inl ⟨_, e, h, hf, holdsN_at hf, h8, hdef⟩)
    | none =>
      rw [hf] at hdef
      simp only at hdef
      by_cases h64 : es.length = 64
      · rw [if_pos h64] at hdef
        exact .inl ⟨1501, by decide, hdef⟩
      · rw [if_neg h64] at hdef
        refine .inr (.inr ⟨h, hm.2, fun e he hs => ?_, by have := h.len; omega, hdef⟩)
        obtain ⟨i, hi⟩ := List.mem_iff_getElem?.1 he
        have hge := List.getElem?_eq_none_iff.1 hf
        have hlt := (List.getElem?_eq_some_iff.1 hi).1
        have := holdsN_lt (s := s) (k := i) (by omega) hi
        rw [hs, txEq_self] at this; cases this
  · refine .inl ⟨1500, by decide, ?_⟩
    unfold putS
    rw [if_pos (by simpa using hm)]
theorem drop_cases (es : List Ent) (id : Int) :
    (∃ e, e ≠ 0 ∧ dropS es id = ([], e)) ∨
    (∃ k x, Store es ∧ es[k]? = some x ∧ x.id = id ∧ x.n ≠ 0 ∧ dropS es id = (bump es k (-1), 0)) := by
  by_cases hm : storeMay es = true
  · have h := store_of hm
    have hdef : dropS es id = (match es[findN es id]? with
      | none => ([], 1502)
      | some e => if e.n = 0 then ([], 1502) else (bump es (findN es id) (-1), 0)) := by
      unfold dropS
      rw [hm, if_neg (by decide)]
      cases es[findN es id]? <;> rfl
    cases hf : es[findN es id]? with
    | none => rw [hf] at hdef; exact .inl ⟨1502, by decide, hdef⟩
    | some e =>
      rw [hf] at hdef
      simp only at hdef
      by_cases h0 : e.n = 0
      · rw [if_pos h0] at hdef
        exact .inl ⟨1502, by decide, hdef⟩
      · rw [if_neg h0] at hdef
        have hlt := (List.getElem?_eq_some_iff.1 hf).1
        have := List.findIdx_getElem (xs := es) (p := fun e : Ent => decide (e.id = id)) (w := hlt)
        have hel : es[findN es id] = e := by rw [List.getElem?_eq_getElem hlt] at hf; exact Option.some.inj hf
        exact .inr ⟨_, e, h, hf, by rw [← hel]; exact of_decide_eq_true this, h0, hdef⟩
  · refine .inl ⟨1500, by decide, ?_⟩
    unfold dropS
    rw [if_pos (by simpa using hm)]
theorem drop_at {es : List Ent} (h : Store es) {k : Nat} {x : Ent} (hx : es[k]? = some x) (hn : x.n ≠ 0) : dropS es x.id = (bump es k (-1), 0) := by
  unfold dropS
  rw [of_store h, if_neg (by decide), findN_at h hx, hx]
  simp only
  rw [if_neg hn]
theorem sweep_ok {es : List Ent} (h : Store es) : sweepS es = (es.filter fun e => decide (e.n ≠ 0), 0) := by
  unfold sweepS; rw [of_store h, if_neg (by decide)]

/-- a text put, let go again, and all swept -/
theorem again (es : List Ent) (s : ByteArray) (h : (putS es s).2.2 = 0) : (dropS (putS es s).1 (putS es s).2.1).2 = 0 ∧ (sweepS (dropS (putS es s).1 (putS es s).2.1).1).2 = 0 ∧ (sweepS es).2 = 0 ∧ (sweepS (dropS (putS es s).1 (putS es s).2.1).1).1 = (sweepS es).1 := by
  rcases put_cases es s with ⟨e, he, hp⟩ | ⟨k, x, hs, hx, hxs, h8, hp⟩ | ⟨hs, ht, hno, hl, hp⟩
  · rw [hp] at h; exact absurd h he
  · have hn := ent_n hs hx
    have hlt := (List.getElem?_eq_some_iff.1 hx).1
    have hb := bump_store hs hx (d := 1) (by omega)
    have hd := drop_at hb (k := k) (x := ⟨x.id, x.tx, x.n + 1⟩) (by rw [bump_at 1 hx, List.getElem?_set_self hlt]) (by simp only; omega)
    rw [hp]
    simp only at hd ⊢
    rw [hd]
    simp only
    rw [bump_back hx, sweep_ok hs]
    exact ⟨by trivial, by trivial, by trivial, by trivial⟩
  · have hi := ins_store hs ht (n := 1) (by decide) hno hl
    have hat := ins_at es s 1
    have hd := drop_at hi hat (by simp)
    have hb := bump_store hi hat (d := -1) (by simp only; omega)
    rw [hp]
    simp only at hd ⊢
    rw [hd]
    simp only
    have hbi : bump (insE es s 1) (freeN es) (-1) = insE es s 0 := by
      rw [bump_at (-1) hat]
      have h1 := (freeN_spec es).1
      unfold insE
      rw [List.set_append_right _ _ (by rw [List.length_take]; omega), List.length_take, Nat.min_eq_left h1, Nat.sub_self]
      rfl
    rw [sweep_ok hb, sweep_ok hs, hbi]
    refine ⟨by trivial, by trivial, by trivial, ?_⟩
    unfold insE
    rw [List.filter_append, List.filter_cons_of_neg (by simp)]
    rw [← List.filter_append, List.take_append_drop]

/-- what Put leaves -/
theorem put_leaves (es : List Ent) (s : ByteArray) (h : (putS es s).2.2 = 0) : storeMay (putS es s).1 = true ∧ getS (putS es s).1 (putS es s).2.1 = (s, true) ∧ ∀ o, o ≠ (putS es s).2.1 → getS (putS es s).1 o = getS es o := by
  rcases put_cases es s with ⟨e, he, hp⟩ | ⟨k, x, hs, hx, hxs, h8, hp⟩ | ⟨hs, ht, hno, hl, hp⟩
  · rw [hp] at h; exact absurd h he
  · have hn := ent_n hs hx
    have hlt := (List.getElem?_eq_some_iff.1 hx).1
    have hb := bump_store hs hx (d := 1) (by omega)
    have hg := get_some hb (k := k) (e := ⟨x.id, x.tx, x.n + 1⟩) (by rw [bump_at 1 hx, List.getElem?_set_self hlt])
    rw [hp]
    simp only at hg ⊢
    exact ⟨of_store hb, by rw [hg, hxs], fun o _ => get_key hs hb (bump_key es k 1) o⟩
  · have hi := ins_store hs ht (n := 1) (by decide) hno hl
    have hg := get_some hi (ins_at es s 1)
    rw [hp]
    simp only at hg ⊢
    refine ⟨of_store hi, hg, fun o ho => get_same hs hi (fun e he hid => ⟨e, ins_mem.2 (.inl he), hid, rfl⟩) fun x hx hid => ?_⟩
    rcases ins_mem.1 hx with h1 | rfl
    · exact ⟨x, h1, hid⟩
    · exact absurd hid.symm ho
theorem drop_leaves (es : List Ent) (id : Int) (h : (dropS es id).2 = 0) : storeMay (dropS es id).1 = true ∧ (dropS es id).1.length = es.length ∧ ∀ o, getS (dropS es id).1 o = getS es o := by
  rcases drop_cases es id with ⟨e, he, hp⟩ | ⟨k, x, hs, hx, hid, h0, hp⟩
  · rw [hp] at h; exact absurd h he
  · have hn := ent_n hs hx
    have hb := bump_store hs hx (d := -1) (by omega)
    rw [hp]
    exact ⟨of_store hb, bump_len _ _ _, fun o => get_key hs hb (bump_key es k (-1)) o⟩
theorem put_fails (es : List Ent) (s : ByteArray) (h : (putS es s).2.2 ≠ 0) : (putS es s).1 = [] ∧ (putS es s).2.1 = 0 := by
  rcases put_cases es s with ⟨e, he, hp⟩ | ⟨k, x, hs, hx, hxs, h8, hp⟩ | ⟨hs, ht, hno, hl, hp⟩
  · rw [hp]; exact ⟨rfl, rfl⟩
  · rw [hp] at h; exact absurd rfl h
  · rw [hp] at h; exact absurd rfl h
end Go.Proofs.Ytekifjeckbndiaa.VM

/- Chapter 15: the statements StoreAgain, StoreOther. -/
namespace Go.Proofs.Ytekifjeckbndiaa.VM
open Go
set_option linter.unusedVariables false
set_option linter.unusedSimpArgs false
attribute [local irreducible] wq wqL wqD wqE wqO Th Bk EndR
set_option maxHeartbeats 8000000

theorem law_storeAgain {D : Type} (K : Heap) (vs : List V) (ds : List (DataW D)) (ro : Ro K) (h : RdAll T K [66, 9] vs ds) : ∃ K', Call Try.prog 12 vs K (.bool true) K' := by
  obtain ⟨v1, vs, d1, ds, rfl, rfl, hv1, h⟩ := rdAll_cons h
  obtain ⟨v2, vs, d2, ds, rfl, rfl, hv2, h⟩ := rdAll_cons h
  obtain ⟨rfl, rfl⟩ := rdAll_nil h
  obtain ⟨es, hx, lx⟩ := rd_ents hv1
  obtain ⟨s, rfl, ls⟩ := rd_str hv2
  replace lx : es.length * 32 ≤ 140737488351232 := lx
  clear hv1 hv2 h
  have l1 := putS_len es s
  refine ⟨K, ?_⟩
  refine call_pure fit mixed Try.func12 rfl rfl rfl (by kernel_rfl) rfl fun hM => ?_
  refine goM ?_
  refine l_callG (awake15_ _) ?_
  refine goM ?_
  obtain ⟨_, H2, c1, a, rfl, m1⟩ := put15_ K v1 es s hx (by omega)
  have hlen := (m1.sl .here).len T66 rfl
  by_cases h0 : (putS es s).2.2 = 0
  · obtain ⟨e1, e2, e3, e4⟩ := again es s h0
    generalize putS es s = p at *
    obtain ⟨p1, p2, p3⟩ := p
    simp only at h0 c1 m1 e1 e2 e4 hlen l1
    subst h0
    refine l_callG c1 ?_
    replace hM := hM.call1 m1
    clear c1 m1
    refine goM ?_
    refine l_callG (num_ _ _) ?_
    refine goM ?_
    obtain ⟨_, H3, c1, b, rfl, m1⟩ := drop15_ H2 a p1 p2 (hM.sl .here) (by omega)
    have l2 := dropS_len p1 p2
    rw [e1] at c1
    refine l_callG c1 ?_
    replace hM := hM.call1 m1
    clear c1 m1
    refine goM ?_
    generalize dropS p1 p2 = q at *
    obtain ⟨_, H4, c1, c, rfl, m1⟩ := sweep15_ H3 b q.1 (hM.sl .here) (by omega)
    have l3 := sweepS_len q.1
    rw [e2] at c1
    rw [e4] at m1 l3
    refine l_callG c1 ?_
    replace hM := hM.call1 m1
    clear c1 m1
    refine goM ?_
    obtain ⟨_, H5, c1, d, rfl, m1⟩ := sweep15_ H4 v1 es (hx.mono hM.pre) (by omega)
    rw [e3] at c1
    refine l_callG c1 ?_
    replace hM := hM.call1 m1
    clear c1 m1
    have c2 := sameEnts_ H5 c d (sweepS es).1 (sweepS es).1 (hM.sl (.there .here)) (hM.sl .here) (by omega)
    rw [entsEq_self] at c2
    clear e1 e2 e3 e4 l1 l2 l3 hlen
    refine goM ?_
    refine l_callG (num_ _ _) ?_
    refine goM ?_
    refine l_callG (num_ _ _) ?_
    refine goM ?_
    refine l_callG (num_ _ _) ?_
    refine goM ?_
    refine l_callG c2 ?_
    refine goM ?_
    exact end_1 (by first | exact .inl rfl | exact .inr rfl) ⟨rfl, hM.pre⟩
  · obtain ⟨e1, e2⟩ := put_fails es s h0
    rw [e1] at hlen m1
    rw [e2] at c1
    have dn : ((putS es s).2.2 != 0) = true := by simpa using h0
    obtain ⟨z, hz⟩ : ∃ z, (putS es s).2.2 = z := ⟨_, rfl⟩
    rw [hz] at dn c1
    clear h0 e1 e2 l1 hz
    refine l_callG c1 ?_
    replace hM := hM.call1 m1
    clear c1 m1
    refine goM ?_
    refine l_callG (num_ _ _) ?_
    have hz0 : (((([] : List Ent).length : Nat) : Int) == 0) = true := by simp
    refine goM ?_
    exact end_1 (by first | exact .inl rfl | exact .inr rfl) ⟨rfl, hM.pre⟩

theorem wq_meetT {P : Program} {T : Tab} {c : Code} {n : Rho → Heap → Prop} {Q : Exit → Rho → Heap → Prop} {ρ : Rho} {h : Heap} (I : Rho → Heap → Prop) (h1 : wq P T c (Th I fun _ _ _ => False) ρ h) (h2 : ∀ ρ h, I ρ h → n ρ h) : wq P T c (Th n Q) ρ h :=
  wq_mono c (fun x ρ h hx => by
    cases x with
    | normal => simp only [Th] at hx; exact th_normal (h2 ρ h hx)
    | _ => simp only [Th] at hx) h1
theorem bool_ne (b : Bool) : vbin T .neq 4 (.bool b) (.bool b) = some (.bool false) := by
  simp only [vbin, T4]
  cases b <;> rfl
theorem law_storeOther {D : Type} (K : Heap) (vs : List V) (ds : List (DataW D)) (ro : Ro K) (h : RdAll T K [66, 9, 3, 3] vs ds) : ∃ K', Call Try.prog 11 vs K (.bool true) K' := by
  obtain ⟨v1, vs, d1, ds, rfl, rfl, hv1, h⟩ := rdAll_cons h
  obtain ⟨v2, vs, d2, ds, rfl, rfl, hv2, h⟩ := rdAll_cons h
  obtain ⟨v3, vs, d3, ds, rfl, rfl, hv3, h⟩ := rdAll_cons h
  obtain ⟨v4, vs, d4, ds, rfl, rfl, hv4, h⟩ := rdAll_cons h
  obtain ⟨rfl, rfl⟩ := rdAll_nil h
  obtain ⟨es, hx, lx⟩ := rd_ents hv1
  obtain ⟨s, rfl, ls⟩ := rd_str hv2
  obtain ⟨id, rfl, _⟩ := hv3.int T3 rfl
  obtain ⟨ot, rfl, _⟩ := hv4.int T3 rfl
  replace lx : es.length * 32 ≤ 140737488351232 := lx
  clear hv1 hv2 hv3 hv4 h
  have l1 := putS_len es s
  have l2 := dropS_len es id
  have hlx := hx.len T66 rfl
  refine ⟨K, ?_⟩
  refine call_pure fit mixed Try.func11 rfl rfl rfl (by kernel_rfl) rfl fun hM => ?_
  refine goM ?_
  refine l_callG (awake15_ _) ?_
  refine goM ?_
  obtain ⟨_, H2, c1, a, rfl, m1⟩ := put15_ K v1 es s hx (by omega)
  refine l_callG c1 ?_
  replace hM := hM.call1 m1
  clear c1 m1
  refine goM ?_
  obtain ⟨_, H3, c1, b, rfl, m1⟩ := drop15_ H2 v1 es id (hx.mono hM.pre) (by omega)
  refine l_callG c1 ?_
  replace hM := hM.call1 m1
  clear c1 m1
  refine goM ?_
  have c1 := get15_ H3 v1 es ot (hx.mono hM.pre) (by omega)
  refine l_callG c1 ?_
  clear c1
  have hp : (putS es s).2.2 = 0 → storeMay (putS es s).1 = true ∧ getS (putS es s).1 (putS es s).2.1 = (s, true) ∧ (ot ≠ (putS es s).2.1 → getS (putS es s).1 ot = getS es ot) := fun h => ⟨(put_leaves es s h).1, (put_leaves es s h).2.1, (put_leaves es s h).2.2 ot⟩
  have hd : (dropS es id).2 = 0 → storeMay (dropS es id).1 = true ∧ (dropS es id).1.length = es.length ∧ getS (dropS es id).1 ot = getS es ot := fun h => ⟨(drop_leaves es id h).1, (drop_leaves es id h).2.1, (drop_leaves es id h).2.2 ot⟩
  generalize putS es s = p at *
  generalize dropS es id = q at *
  generalize getS es ot = g at *
  obtain ⟨p1, p2, p3⟩ := p
  obtain ⟨q1, q2⟩ := q
  obtain ⟨g1, g2⟩ := g
  simp only at hp hd hM l1 l2
  have hgg : (g1.toList == g1.toList) = true := by simp
  have hss : (s.toList == s.toList) = true := by simp
  have hbn := bool_ne g2
  refine goM ?_
  refine l_callG (num_ _ _) ?_
  refine goM ?_
  refine wq_meetT (fun ρ h => h = H3 ∧ ρ 0 = v1 ∧ ρ 3 = .int .i64 ot ∧ ρ 12 = b ∧ ρ 13 = .int .i64 q2 ∧ ρ 14 = .str g1 ∧ ρ 15 = .bool g2) ?_ ?_
  · by_cases h0 : p3 = 0
    · obtain ⟨a1, a2, a3⟩ := hp h0
      subst h0
      have c1 := get15_ H3 a p1 ot (hM.sl (.there .here)) (by omega)
      have c2 := get15_ H3 a p1 p2 (hM.sl (.there .here)) (by omega)
      have c3 := storeMay_ H3 a p1 (hM.sl (.there .here)) (by omega)
      rw [a1] at c3
      rw [a2] at c2
      by_cases ho : ot = p2
      · have dn : (ot != p2) = false := by simpa using ho
        generalize getS p1 ot = y at *
        clear hp hd a1 a2 a3 l1 l2 ho
        refine goM ?_
        refine l_callG c1 ?_
        refine goM ?_
        refine l_callG c2 ?_
        refine goM ?_
        refine l_callG c3 ?_
        refine goM ?_
        exact ⟨rfl, by simp [put_app, put_none, rho0_app]⟩
      · have dn : (ot != p2) = true := by simpa using ho
        rw [a3 ho] at c1
        clear hp hd a1 a2 a3 l1 l2 ho
        refine goM ?_
        refine l_callG c1 ?_
        refine goM ?_
        refine l_callG c2 ?_
        repeat (first | (refine l_pl ?_; refine l_step (s_bin eLk eLk hbn) ?_) | (refine l_gd ?_; refine l_onG ?_; refine l_step (s_bin eLk eLk hbn) ?_) | (refine l_pl ?_; refine l_goM ?_) | (refine d_pl ?_; refine d_goM ?_) | (refine l_gd ?_; first | refine l_onG ?_ | refine l_offG ?_ | refine l_offU ?_) | (refine d_gd ?_; first | refine d_onG ?_ | refine d_offG ?_ | refine d_offU ?_) | (refine cond_pl ?_; first | refine cond_yes ?_ | refine cond_no ?_) | refine wq_seq ?_ | refine wq_line ?_ | refine wq_draw (by decide +kernel) ?_ | refine wq_block ?_ | refine l_nil ?_ | refine d_nil ?_ | refine wq_skip ?_ | refine wq_ret ?_ | refine wq_exit ?_ | refine th_normal ?_ | refine th_ret ?_ | refine th_exit ?_ | refine bk_normal ?_ | refine bk_ret ?_ | refine bk_exit ?_ | refine bk_other rfl ?_)
        refine l_callG c3 ?_
        refine goM ?_
        exact ⟨rfl, by simp [put_app, put_none, rho0_app]⟩
    · have dn : (p3 == 0) = false := by simpa using h0
      clear h0 hp hd
      refine goM ?_
      exact ⟨rfl, by simp [put_app, put_none, rho0_app]⟩
  · rintro ρ h ⟨rfl, g0, g3, g12, g13, g14, g15⟩
    clear hp
    refine goM ?_
    refine l_callG (num_ _ _) ?_
    by_cases h0 : q2 = 0
    · obtain ⟨a1, a2, a3⟩ := hd h0
      subst h0
      have c1 := get15_ h b q1 ot (hM.sl .here) (by omega)
      have c3 := storeMay_ h b q1 (hM.sl .here) (by omega)
      have hlq := (hM.sl .here).len T66 rfl
      rw [a1] at c3
      rw [a2] at hlq
      rw [a3] at c1
      clear hd a1 a2 a3 l1 l2
      refine goM ?_
      refine l_callG c1 ?_
      repeat (first | (refine l_pl ?_; refine l_step (s_bin eLk eLk hbn) ?_) | (refine l_gd ?_; refine l_onG ?_; refine l_step (s_bin eLk eLk hbn) ?_) | (refine l_pl ?_; refine l_goM ?_) | (refine d_pl ?_; refine d_goM ?_) | (refine l_gd ?_; first | refine l_onG ?_ | refine l_offG ?_ | refine l_offU ?_) | (refine d_gd ?_; first | refine d_onG ?_ | refine d_offG ?_ | refine d_offU ?_) | (refine cond_pl ?_; first | refine cond_yes ?_ | refine cond_no ?_) | refine wq_seq ?_ | refine wq_line ?_ | refine wq_draw (by decide +kernel) ?_ | refine wq_block ?_ | refine l_nil ?_ | refine d_nil ?_ | refine wq_skip ?_ | refine wq_ret ?_ | refine wq_exit ?_ | refine th_normal ?_ | refine th_ret ?_ | refine th_exit ?_ | refine bk_normal ?_ | refine bk_ret ?_ | refine bk_exit ?_ | refine bk_other rfl ?_)
      refine l_callG c3 ?_
      refine goM ?_
      exact end_1 (by first | exact .inl rfl | exact .inr rfl) ⟨rfl, hM.pre⟩
    · have dn : (q2 == 0) = false := by simpa using h0
      clear h0 hd
      refine goM ?_
      exact end_1 (by first | exact .inl rfl | exact .inr rfl) ⟨rfl, hM.pre⟩
end Go.Proofs.Ytekifjeckbndiaa.VM

/- Chapter 21: the statement TrainForms. -/
namespace Go.Proofs.Ytekifjeckbndiaa.VM
open Go
set_option linter.unusedVariables false
set_option linter.unusedSimpArgs false
attribute [local irreducible] wq wqL wqD wqE wqO Th Bk EndR
set_option maxHeartbeats 8000000

def Cfg.setI (c : Cfg) (x : Int) : Cfg := { c with interval := x }
def Chk.setT (k : Chk) (t : Int) : Chk := { k with t := t }
def Chk.noVs (k : Chk) : Chk := { k with vs := [] }
def Chk.more (k : Chk) : Chk := { k with ws := k.ws ++ [1], vs := k.vs ++ [1] }
theorem trainR_no {c : Cfg} {id : Int} {k : Chk} (h : trainOk c id k = false) : trainR c id k = (noChk, 2100) := by
  unfold trainR; rw [h]; rfl
theorem trainOk_cfg {c : Cfg} {id : Int} {k : Chk} (h : cfgMay c = false) : trainOk c id k = false := by unfold trainOk; rw [h]; rfl
theorem trainOk_fits {c : Cfg} {id : Int} {k : Chk} (h : kFits c k = false) : trainOk c id k = false := by unfold trainOk; rw [h, Bool.and_false]
theorem kFits_len {c : Cfg} {k : Chk} (h : kFits c k = true) : k.vs.length = k.ws.length ∧ 1 ≤ k.ws.length ∧ (k.ws.length : Int) = c.h * (c.i + 1) + c.h + 1 := by
  unfold kFits memFits at h
  rw [Bool.and_eq_true] at h
  obtain ⟨_, _, l, l1, _⟩ := chkMay_split h.1
  obtain ⟨_, _, i', h', hi', hh', _, _, _, _, hsz⟩ := fits_split h.2
  refine ⟨l, l1, ?_⟩
  rw [hsz, hi', hh', ← size_cast]
theorem cfgMay_interval {c : Cfg} {x : Int} (h : x < 1) : cfgMay { c with interval := x } = false := by
  rw [Bool.eq_false_iff]; intro hc
  obtain ⟨_, _, _, _, h1⟩ := cfgMay_split hc
  simp only at h1; omega
theorem kFits_vs {c : Cfg} {k : Chk} (h : kFits c k = true) : kFits c { k with vs := [] } = false := by
  rw [Bool.eq_false_iff]; intro hc
  have h1 := kFits_len h
  have h2 := kFits_len hc
  simp only [List.length_nil] at h2; omega
theorem kFits_more {c : Cfg} {k : Chk} (h : kFits c k = true) (x y : Int) : kFits c { k with ws := k.ws ++ [x], vs := k.vs ++ [y] } = false := by
  rw [Bool.eq_false_iff]; intro hc
  have h1 := kFits_len h
  have h2 := kFits_len hc
  simp only [List.length_append, List.length_cons, List.length_nil] at h2; omega
theorem kFits_late {c : Cfg} {k : Chk} {t : Int} (ht : 32 < t) : kFits c { k with t := t } = false := by
  rw [Bool.eq_false_iff]; intro hc
  unfold kFits memFits at hc
  rw [Bool.and_eq_true] at hc
  obtain ⟨_, _, _, _, _, _, l⟩ := chkMay_split hc.1
  simp only at l; omega

theorem more_fit {c : Cfg} {k : Chk} (h : kFits c k = true) : k.more.Fit ∧ k.ws.length ≤ 16 ∧ k.vs.length ≤ 16 := by
  unfold kFits memFits at h
  rw [Bool.and_eq_true] at h
  obtain ⟨a, b, l, _⟩ := chkMay_split h.1
  have := vecMay_len a
  have := vecMay_len b
  exact ⟨⟨by simp only [Chk.more, List.length_append, List.length_cons, List.length_nil]; omega, by simp only [Chk.more, List.length_append, List.length_cons, List.length_nil]; omega⟩, by omega, by omega⟩

end Go.Proofs.Ytekifjeckbndiaa.VM

/- Chapter 15: the statement StoreLeast. -/
namespace Go.Proofs.Ytekifjeckbndiaa.VM
open Go
set_option linter.unusedVariables false
set_option linter.unusedSimpArgs false
attribute [local irreducible] wq wqL wqD wqE wqO Th Bk EndR
set_option maxHeartbeats 8000000

theorem put_new {es : List Ent} {s : ByteArray} (h : Store es) (ht : textOk s = true) (hno : ∀ e ∈ es, e.tx ≠ s) (hl : es.length < 64) : putS es s = (insE es s 1, (freeN es : Int), 0) := by
  have hn : holdsN es s = es.length := holdsN_none fun j x hx => by
    cases hq : txEq x.tx s with
    | false => rfl
    | true => exact absurd (txEq_iff.1 hq) (hno x (List.mem_of_getElem? hx))
  unfold putS
  rw [of_store h, ht, if_neg (by decide), hn, List.getElem?_eq_none (Nat.le_refl _)]
  simp only
  rw [if_neg (by omega)]
  rfl
theorem put_bad {es : List Ent} {s : ByteArray} (ht : textOk s = false) : putS es s = ([], 0, 1500) := by
  unfold putS
  rw [ht, Bool.and_false, if_pos rfl]

def leastE (i : Nat) : Ent := ⟨(i : Int), strOf [97 + (i : Int)], 1⟩
def leastL (p : Nat → Bool) (k : Nat) : List Ent := ((List.range k).filter p).map leastE
theorem leastL_step (p : Nat → Bool) (k : Nat) : leastL p (k + 1) = leastL p k ++ (if p k = true then [leastE k] else []) := by
  unfold leastL
  rw [List.range_succ, List.filter_append, List.map_append]
  congr 1
  simp only [List.filter_cons, List.filter_nil]
  split <;> rfl
theorem leastL_mem {p : Nat → Bool} {k : Nat} {e : Ent} : e ∈ leastL p k ↔ ∃ i, i < k ∧ p i = true ∧ e = leastE i := by
  unfold leastL
  simp only [List.mem_map, List.mem_filter, List.mem_range]
  constructor
  · rintro ⟨i, ⟨h1, h2⟩, rfl⟩; exact ⟨i, h1, h2, rfl⟩
  · rintro ⟨i, h1, h2, rfl⟩; exact ⟨i, ⟨h1, h2⟩, rfl⟩
theorem leastL_len (p : Nat → Bool) (k : Nat) : (leastL p k).length ≤ k := by
  unfold leastL
  rw [List.length_map]
  have := List.length_filter_le p (List.range k)
  rw [List.length_range] at this
  exact this
theorem strOf_one (n : Int) : (strOf [n]).data.toList = [UInt8.ofNat n.toNat] := rfl
theorem leastE_tx {i j : Nat} (hi : i < 12) (hj : j < 12) (h : (leastE i).tx = (leastE j).tx) : i = j := by
  have h1 : (leastE i).tx.data.toList = (leastE j).tx.data.toList := by rw [h]
  unfold leastE at h1
  simp only [strOf_one, List.cons.injEq, and_true] at h1
  have h2 := congrArg UInt8.toNat h1
  rw [UInt8.toNat_ofNat', UInt8.toNat_ofNat'] at h2
  omega
theorem leastL_up (p : Nat → Bool) (k : Nat) : (leastL p k).Pairwise fun x y => x.id < y.id := by
  unfold leastL
  rw [List.pairwise_map]
  refine (List.Pairwise.filter p List.pairwise_lt_range).imp fun {a b} h => ?_
  unfold leastE
  simp only
  omega
theorem leastL_store (p : Nat → Bool) {k : Nat} (hk : k ≤ 12) : Store (leastL p k) := by
  have up : ∀ (i j : Nat) x y, i < j → (leastL p k)[i]? = some x → (leastL p k)[j]? = some y → x.id < y.id := fun i j x y hij hx hy => by
    obtain ⟨h1, rfl⟩ := List.getElem?_eq_some_iff.1 hx
    obtain ⟨h2, rfl⟩ := List.getElem?_eq_some_iff.1 hy
    exact List.pairwise_iff_getElem.1 (leastL_up p k) i j h1 h2 hij
  refine ⟨by have := leastL_len p k; omega, fun e he => ?_, up, fun i j x y hx hy he => ?_⟩
  · obtain ⟨i, hi, _, rfl⟩ := leastL_mem.1 he
    show (within (i : Int) 0 1024 && textOk (strOf [97 + (i : Int)]) && within 1 0 8) = true
    rw [within_iff.2 ⟨by omega, by omega⟩]
    have : textOk (strOf [97 + (i : Int)]) = true := by unfold textOk; rw [strOf_size]; rfl
    rw [this]; rfl
  · obtain ⟨a, ha, _, rfl⟩ := leastL_mem.1 (List.mem_of_getElem? hx)
    obtain ⟨b, hb, _, rfl⟩ := leastL_mem.1 (List.mem_of_getElem? hy)
    have hab := leastE_tx (i := a) (j := b) (by omega) (by omega) he
    subst hab
    rcases Nat.lt_trichotomy i j with h | h | h
    · have := up i j _ _ h hx hy; omega
    · exact h
    · have := up j i _ _ h hy hx; omega
/-- the first that is not taken, of k -/
def FreeIs (p : Nat → Bool) (k : Nat) (f : Int) : Prop := (f = -1 ∧ ∀ i, i < k → p i = true) ∨ (∃ j, j < k ∧ f = (j : Int) ∧ p j = false ∧ ∀ i, i < j → p i = true)
theorem least_free {p : Nat → Bool} {z : Nat} (hz : z ≤ 12) (h1 : ∀ i, i < z → p i = true) (h2 : z = 12 ∨ p z = false) : freeN (leastL p 12) = z := by
  obtain ⟨f1, f2, f3⟩ := freeN_spec (leastL p 12)
  have hs := leastL_store p (k := 12) (Nat.le_refl _)
  have hid : ∀ (j : Nat) x, (leastL p 12)[j]? = some x → (j : Int) ≤ x.id := fun j => by
    induction j with
    | zero =>
      intro x hx
      obtain ⟨a, _, _, rfl⟩ := leastL_mem.1 (List.mem_of_getElem? hx)
      show (0 : Int) ≤ (a : Int); omega
    | succ j ih =>
      intro x hx
      have hlt := (List.getElem?_eq_some_iff.1 hx).1
      have hp : (leastL p 12)[j]? = some ((leastL p 12)[j]'(by omega)) := by simp
      have a := ih _ hp
      have b := hs.up j (j + 1) _ x (Nat.lt_succ_self j) hp hx
      omega
  rcases Nat.lt_trichotomy (freeN (leastL p 12)) z with h | h | h
  · -- it is taken, so it stands in the store
    have hp := h1 _ h
    have hm : leastE (freeN (leastL p 12)) ∈ leastL p 12 := leastL_mem.2 ⟨_, by omega, hp, rfl⟩
    obtain ⟨m, hm⟩ := List.mem_iff_getElem?.1 hm
    have hml := (List.getElem?_eq_some_iff.1 hm).1
    rcases Nat.lt_or_ge m (freeN (leastL p 12)) with hlt | hge
    · have := f2 m _ hlt hm
      unfold leastE at this
      simp only at this
      omega
    · have := free_above hs hge hm
      unfold leastE at this
      simp only at this
      omega
  · exact h
  · rcases h2 with rfl | h2
    · have := leastL_len p 12
      omega
    · have hlt : z < (leastL p 12).length := by omega
      have hx : (leastL p 12)[z]? = some ((leastL p 12)[z]'hlt) := by simp
      have h3 := f2 z _ h hx
      obtain ⟨a, _, ha, hae⟩ := leastL_mem.1 (List.mem_of_getElem? hx)
      rw [hae] at h3
      unfold leastE at h3
      simp only at h3
      have : a = z := by omega
      subst this
      rw [ha] at h2; cases h2
theorem ask_tx {p : Nat → Bool} {k : Nat} (hk : k ≤ 12) (s : ByteArray) : ∀ e ∈ leastL p k, e.tx ≠ (⟨#[63]⟩ : ByteArray) ++ s := fun e he h => by
  obtain ⟨i, hi, _, rfl⟩ := leastL_mem.1 he
  have h1 : (leastE i).tx.data.toList = ((⟨#[63]⟩ : ByteArray) ++ s).data.toList := by rw [h]
  have h0 : (leastE i).tx.data.toList = [UInt8.ofNat (97 + (i : Int)).toNat] := rfl
  rw [h0, ByteArray.data_append, Array.toList_append] at h1
  have h2 := (List.cons.inj h1).1
  have h3 := congrArg UInt8.toNat h2
  rw [UInt8.toNat_ofNat'] at h3
  have : (63 : UInt8).toNat = 63 := rfl
  rw [this] at h3
  omega
theorem ask_size (s : ByteArray) : ((⟨#[63]⟩ : ByteArray) ++ s).size = 1 + s.size := by
  rw [ByteArray.size_append]; rfl

def bitAt (t : Int) (i : Nat) : Int := IntKind.i64.wrap ((BitVec.ofInt IntKind.i64.bits (t.fdiv (2 ^ (min i IntKind.i64.bits))) &&& BitVec.ofInt IntKind.i64.bits 1).toNat : Int)
def bitP (t : Int) (i : Nat) : Bool := bitAt t i == 1
theorem bit_sh (t : Int) (i : Nat) : vbin T .shr 3 (.int .i64 t) (.int .i64 (i : Int)) = some (.int .i64 (t.fdiv (2 ^ (min i IntKind.i64.bits)))) := by
  simp only [vbin, shiftBin]
  rw [if_neg (by omega), Int.toNat_natCast]

theorem law_storeLeast {D : Type} (K : Heap) (vs : List V) (ds : List (DataW D)) (ro : Ro K) (h : RdAll T K [3, 9] vs ds) : ∃ K', Call Try.prog 13 vs K (.bool true) K' := by
  obtain ⟨v1, vs, d1, ds, rfl, rfl, hv1, h⟩ := rdAll_cons h
  obtain ⟨v2, vs, d2, ds, rfl, rfl, hv2, h⟩ := rdAll_cons h
  obtain ⟨rfl, rfl⟩ := rdAll_nil h
  obtain ⟨t, rfl, _⟩ := hv1.int T3 rfl
  obtain ⟨s, rfl, ls⟩ := rd_str hv2
  replace ls : s.size ≤ 140737488351232 := ls
  clear hv1 hv2 h
  refine ⟨K, ?_⟩
  refine call_pure fit mixed Try.func13 rfl rfl rfl (by kernel_rfl) rfl fun hM => ?_
  refine goM ?_
  refine l_callG (awake15_ _) ?_
  refine goM ?_
  replace hM := hM.nil 3 entC
  obtain ⟨p, hp⟩ : ∃ p, bitP t = p := ⟨_, rfl⟩
  refine wq_loop (fun c ρ h => ∃ (k : Nat) (u : V) (f : Int), k ≤ 12 ∧ c = 12 - k ∧ Mem K h [.own 3 entC u (leastL p k)] ∧ FreeIs p k f ∧ ρ 0 = .int .i64 t ∧ ρ 1 = .str s ∧ ρ 5 = u ∧ ρ 6 = .int .i64 f ∧ ρ 7 = .int .i64 (k : Int)) ⟨0, .nils, -1, Nat.zero_le _, rfl, hM, .inl ⟨rfl, by intro i hi; omega⟩, rfl, rfl, rfl, rfl, rfl⟩ ?_
  clear hM
  rintro _ ρ h ⟨k, u, f, hk, rfl, hM, hf, g0, g1, g5, g6, g7⟩
  refine goM ?_
  refine cond_go (fun hb => ?_) (fun hb => ?_)
  · have hk' : k < 12 := by simp at hb; omega
    clear hb
    have hsh := bit_sh t k
    have hstep := leastL_step p k
    have hw := wrap_succ (n := k) (by omega)
    have hpk : (bitAt t k == 1) = p k := by rw [← hp]; rfl
    have hba : IntKind.i64.wrap ((BitVec.ofInt IntKind.i64.bits (t.fdiv (2 ^ (min k IntKind.i64.bits))) &&& BitVec.ofInt IntKind.i64.bits 1).toNat : Int) = bitAt t k := rfl
    obtain ⟨y, hy⟩ : ∃ y, t.fdiv (2 ^ (min k IntKind.i64.bits)) = y := ⟨_, rfl⟩
    rw [hy] at hsh hba
    obtain ⟨z, hz⟩ : ∃ z, bitAt t k = z := ⟨_, rfl⟩
    rw [hz] at hpk hba
    have hll := leastL_len p k
    have w97 : IntKind.i64.wrap (97 + (k : Int)) = 97 + (k : Int) := wrap_i64 (by omega) (by omega)
    have w8 : IntKind.u8.wrap (97 + (k : Int)) = 97 + (k : Int) := by rw [wrap_u8]; omega
    cases hq : p k with
    | true =>
      rw [hq] at hpk
      rw [hq, if_pos rfl] at hstep
      have hf2 : FreeIs p (k + 1) f := by
        rcases hf with ⟨h1, h2⟩ | ⟨j, h1, h2, h3, h4⟩
        · refine .inl ⟨h1, fun i hi => ?_⟩
          rcases Nat.lt_or_eq_of_le (Nat.le_of_lt_succ hi) with h | h
          · exact h2 i h
          · subst h; exact hq
        · exact .inr ⟨j, by omega, h2, h3, h4⟩
      clear hq hy hz hf hp
      repeat (first | (refine l_pl ?_; refine l_step (s_bin eLk eLk hsh) ?_) | (refine l_pl ?_; refine l_goM ?_) | (refine d_pl ?_; refine d_goM ?_) | (refine l_gd ?_; first | refine l_onG ?_ | refine l_offG ?_ | refine l_offU ?_) | (refine d_gd ?_; first | refine d_onG ?_ | refine d_offG ?_ | refine d_offU ?_) | (refine cond_pl ?_; first | refine cond_yes ?_ | refine cond_no ?_) | refine wq_seq ?_ | refine wq_line ?_ | refine wq_draw (by decide +kernel) ?_ | refine wq_block ?_ | refine l_nil ?_ | refine d_nil ?_ | refine wq_skip ?_ | refine wq_ret ?_ | refine wq_exit ?_ | refine th_normal ?_ | refine th_ret ?_ | refine th_exit ?_ | refine bk_normal ?_ | refine bk_ret ?_ | refine bk_exit ?_ | refine bk_other rfl ?_)
      refine l_sliceM byteC [97 + (k : Int)] [.int .u8 (97 + (k : Int))] T84 rfl T5 rfl (Cells.one (sz := 1) rfl rfl) (by decide) fun e1 H1 hM => ?_
      refine l_step (s_toStr eLk (hM.sl .here)) ?_
      refine goM ?_
      refine l_sliceM entC [leastE k] (entV (leastE k)) T66 rfl T86 rfl (cells_ents [leastE k]) (by decide) fun e2 H2 hM => ?_
      refine goM ?_
      refine l_appM (hM.sl .here) (xs := leastL p k) (hh := .there (.there .here)) (hb := by simp only [List.length_cons, List.length_nil]; omega) fun u2 H3 hM => ?_
      rw [← hstep] at hM
      clear hstep hll
      refine goM ?_
      exact ⟨12 - (k + 1), by omega, k + 1, u2, f, hk', rfl, hM.subG, hf2, by simp [put_app, put_none, *]⟩
    | false =>
      rw [hq] at hpk
      rw [hq, if_neg (by decide), List.append_nil] at hstep
      rw [← hstep] at hM
      by_cases hf0 : f < 0
      · have d0 := decide_eq_true hf0
        have hf2 : FreeIs p (k + 1) (k : Int) := by
          rcases hf with ⟨h1, h2⟩ | ⟨j, h1, h2, h3, h4⟩
          · exact .inr ⟨k, Nat.lt_succ_self k, rfl, hq, h2⟩
          · omega
        clear hq hy hz hf hp hf0 hstep hll
        repeat (first | (refine l_pl ?_; refine l_step (s_bin eLk eLk hsh) ?_) | (refine l_pl ?_; refine l_goM ?_) | (refine d_pl ?_; refine d_goM ?_) | (refine l_gd ?_; first | refine l_onG ?_ | refine l_offG ?_ | refine l_offU ?_) | (refine d_gd ?_; first | refine d_onG ?_ | refine d_offG ?_ | refine d_offU ?_) | (refine cond_pl ?_; first | refine cond_yes ?_ | refine cond_no ?_) | refine wq_seq ?_ | refine wq_line ?_ | refine wq_draw (by decide +kernel) ?_ | refine wq_block ?_ | refine l_nil ?_ | refine d_nil ?_ | refine wq_skip ?_ | refine wq_ret ?_ | refine wq_exit ?_ | refine th_normal ?_ | refine th_ret ?_ | refine th_exit ?_ | refine bk_normal ?_ | refine bk_ret ?_ | refine bk_exit ?_ | refine bk_other rfl ?_)
        exact ⟨12 - (k + 1), by omega, k + 1, u, (k : Int), hk', rfl, hM, hf2, by simp [put_app, put_none, *]⟩
      · have d0 := decide_eq_false hf0
        have hf2 : FreeIs p (k + 1) f := by
          rcases hf with ⟨h1, h2⟩ | ⟨j, h1, h2, h3, h4⟩
          · omega
          · exact .inr ⟨j, by omega, h2, h3, h4⟩
        clear hq hy hz hf hp hf0 hstep hll
        repeat (first | (refine l_pl ?_; refine l_step (s_bin eLk eLk hsh) ?_) | (refine l_pl ?_; refine l_goM ?_) | (refine d_pl ?_; refine d_goM ?_) | (refine l_gd ?_; first | refine l_onG ?_ | refine l_offG ?_ | refine l_offU ?_) | (refine d_gd ?_; first | refine d_onG ?_ | refine d_offG ?_ | refine d_offU ?_) | (refine cond_pl ?_; first | refine cond_yes ?_ | refine cond_no ?_) | refine wq_seq ?_ | refine wq_line ?_ | refine wq_draw (by decide +kernel) ?_ | refine wq_block ?_ | refine l_nil ?_ | refine d_nil ?_ | refine wq_skip ?_ | refine wq_ret ?_ | refine wq_exit ?_ | refine th_normal ?_ | refine th_ret ?_ | refine th_exit ?_ | refine bk_normal ?_ | refine bk_ret ?_ | refine bk_exit ?_ | refine bk_other rfl ?_)
        exact ⟨12 - (k + 1), by omega, k + 1, u, f, hk', rfl, hM, hf2, by simp [put_app, put_none, *]⟩
  · have hk' : k = 12 := by simp at hb; omega
    subst hk'
    clear hb hp
    have hs := leastL_store p (k := 12) (Nat.le_refl _)
    have hll := leastL_len p 12
    obtain ⟨z, hz, hzf, hzd⟩ : ∃ z : Nat, freeN (leastL p 12) = z ∧ z ≤ 12 ∧ ((f < 0 ∧ z = 12) ∨ (¬ f < 0 ∧ f = (z : Int))) := by
      rcases hf with ⟨h1, h2⟩ | ⟨j, h1, h2, h3, h4⟩
      · exact ⟨12, least_free (Nat.le_refl _) h2 (.inl rfl), Nat.le_refl _, .inl ⟨by omega, rfl⟩⟩
      · exact ⟨j, least_free (by omega) h4 (.inr h3), by omega, .inr ⟨by omega, h2⟩⟩
    have hadd : vbin T .add 9 (.str ⟨#[63]⟩) (.str s) = some (.str ((⟨#[63]⟩ : ByteArray) ++ s)) := by
      simp only [vbin, strBin]
      have : (ByteArray.size ⟨#[63]⟩) = 1 := rfl
      rw [this, if_neg (by simp only [IntKind.max, IntKind.signed, IntKind.bits]; simp; omega)]
    obtain ⟨ps, hps⟩ : ∃ ps, (⟨#[63]⟩ : ByteArray) ++ s = ps := ⟨_, rfl⟩
    have hpsz : ps.size = 1 + s.size := by rw [← hps]; exact ask_size s
    have hno := hps ▸ ask_tx (p := p) (k := 12) (Nat.le_refl _) s
    rw [hps] at hadd
    have hsl := str_len0 s
    obtain ⟨_, H1, c1, a, rfl, m1⟩ := put15_ h u (leastL p 12) ps (hM.sl .here) (by omega)
    have hlu := (hM.sl .here).len T66 rfl
    have hend : ∀ (ρ : Rho), ρ 1 = .str s → ρ 5 = u → ρ 6 = .int .i64 (z : Int) → True := fun _ _ _ _ => trivial
    clear hend
    replace hM := hM.call1 m1
    by_cases h256 : s.size ≥ 256
    · have hbad := put_bad (es := leastL p 12) (s := ps) (by unfold textOk; rw [hpsz, decide_eq_false (show ¬ 1 + s.size ≤ 256 by omega), Bool.and_false])
      rw [hbad] at c1
      have d256 : decide ((s.size : Int) ≥ 256) = true := decide_eq_true (by omega)
      rcases hzd with ⟨hfz, rfl⟩ | ⟨hfz, rfl⟩
      · have d0 := decide_eq_true hfz
        clear hf hs hll hz hno m1 hbad hfz h256 hps hpsz
        repeat (first | (refine l_pl ?_; refine l_step (s_bin eLk eLk hadd) ?_) | (refine l_pl ?_; refine l_goM ?_) | (refine d_pl ?_; refine d_goM ?_) | (refine l_gd ?_; first | refine l_onG ?_ | refine l_offG ?_ | refine l_offU ?_) | (refine d_gd ?_; first | refine d_onG ?_ | refine d_offG ?_ | refine d_offU ?_) | (refine cond_pl ?_; first | refine cond_yes ?_ | refine cond_no ?_) | refine wq_seq ?_ | refine wq_line ?_ | refine wq_draw (by decide +kernel) ?_ | refine wq_block ?_ | refine l_nil ?_ | refine d_nil ?_ | refine wq_skip ?_ | refine wq_ret ?_ | refine wq_exit ?_ | refine th_normal ?_ | refine th_ret ?_ | refine th_exit ?_ | refine bk_normal ?_ | refine bk_ret ?_ | refine bk_exit ?_ | refine bk_other rfl ?_)
        refine l_callG c1 ?_
        refine goM ?_
        refine l_callG (num_ _ _) ?_
        refine goM ?_
        exact end_1 (by first | exact .inl rfl | exact .inr rfl) ⟨rfl, hM.pre⟩
      · have d0 := decide_eq_false hfz
        clear hf hs hll hz hno m1 hbad hfz h256 hps hpsz
        repeat (first | (refine l_pl ?_; refine l_step (s_bin eLk eLk hadd) ?_) | (refine l_pl ?_; refine l_goM ?_) | (refine d_pl ?_; refine d_goM ?_) | (refine l_gd ?_; first | refine l_onG ?_ | refine l_offG ?_ | refine l_offU ?_) | (refine d_gd ?_; first | refine d_onG ?_ | refine d_offG ?_ | refine d_offU ?_) | (refine cond_pl ?_; first | refine cond_yes ?_ | refine cond_no ?_) | refine wq_seq ?_ | refine wq_line ?_ | refine wq_draw (by decide +kernel) ?_ | refine wq_block ?_ | refine l_nil ?_ | refine d_nil ?_ | refine wq_skip ?_ | refine wq_ret ?_ | refine wq_exit ?_ | refine th_normal ?_ | refine th_ret ?_ | refine th_exit ?_ | refine bk_normal ?_ | refine bk_ret ?_ | refine bk_exit ?_ | refine bk_other rfl ?_)
        refine l_callG c1 ?_
        refine goM ?_
        refine l_callG (num_ _ _) ?_
        refine goM ?_
        exact end_1 (by first | exact .inl rfl | exact .inr rfl) ⟨rfl, hM.pre⟩
    · have ht : textOk ps = true := by unfold textOk; rw [hpsz, decide_eq_true (show 1 ≤ 1 + s.size by omega), decide_eq_true (show 1 + s.size ≤ 256 by omega)]; rfl
      have hnew := put_new hs ht hno (by omega)
      have hmay := of_store (ins_store hs ht (n := 1) (by decide) hno (by omega))
      have hil : (insE (leastL p 12) ps 1).length = (leastL p 12).length + 1 := by
        unfold insE
        have := (freeN_spec (leastL p 12)).1
        simp only [List.length_append, List.length_cons, List.length_take, List.length_drop]; omega
      have hla := (m1.sl .here).len T66 rfl
      have c2 := storeMay_ H1 a (putS (leastL p 12) ps).1 (m1.sl .here) (by have := putS_len (leastL p 12) ps; omega)
      rw [hnew] at c1 hla c2
      simp only at c1 hla c2
      rw [hmay] at c2
      rw [hz] at c1
      rw [hil] at hla
      obtain ⟨n, hn⟩ : ∃ n, (leastL p 12).length = n := ⟨_, rfl⟩
      rw [hn] at hla hlu hll
      have wn : IntKind.i64.wrap ((n : Int) + 1) = ((n + 1 : Nat) : Int) := by rw [wrap_i64 (by omega) (by omega)]; omega
      have d256 : decide ((s.size : Int) ≥ 256) = false := decide_eq_false (by omega)
      rcases hzd with ⟨hfz, rfl⟩ | ⟨hfz, rfl⟩
      · have d0 := decide_eq_true hfz
        clear hf hs hll hz hno m1 hnew hmay hil hfz h256 hps hpsz ht hn
        repeat (first | (refine l_pl ?_; refine l_step (s_bin eLk eLk hadd) ?_) | (refine l_pl ?_; refine l_goM ?_) | (refine d_pl ?_; refine d_goM ?_) | (refine l_gd ?_; first | refine l_onG ?_ | refine l_offG ?_ | refine l_offU ?_) | (refine d_gd ?_; first | refine d_onG ?_ | refine d_offG ?_ | refine d_offU ?_) | (refine cond_pl ?_; first | refine cond_yes ?_ | refine cond_no ?_) | refine wq_seq ?_ | refine wq_line ?_ | refine wq_draw (by decide +kernel) ?_ | refine wq_block ?_ | refine l_nil ?_ | refine d_nil ?_ | refine wq_skip ?_ | refine wq_ret ?_ | refine wq_exit ?_ | refine th_normal ?_ | refine th_ret ?_ | refine th_exit ?_ | refine bk_normal ?_ | refine bk_ret ?_ | refine bk_exit ?_ | refine bk_other rfl ?_)
        refine l_callG c1 ?_
        refine goM ?_
        refine l_callG (num_ _ _) ?_
        refine goM ?_
        refine l_callG c2 ?_
        refine goM ?_
        exact end_1 (by first | exact .inl rfl | exact .inr rfl) ⟨rfl, hM.pre⟩
      · have d0 := decide_eq_false hfz
        clear hf hs hll hz hno m1 hnew hmay hil hfz h256 hps hpsz ht hn
        repeat (first | (refine l_pl ?_; refine l_step (s_bin eLk eLk hadd) ?_) | (refine l_pl ?_; refine l_goM ?_) | (refine d_pl ?_; refine d_goM ?_) | (refine l_gd ?_; first | refine l_onG ?_ | refine l_offG ?_ | refine l_offU ?_) | (refine d_gd ?_; first | refine d_onG ?_ | refine d_offG ?_ | refine d_offU ?_) | (refine cond_pl ?_; first | refine cond_yes ?_ | refine cond_no ?_) | refine wq_seq ?_ | refine wq_line ?_ | refine wq_draw (by decide +kernel) ?_ | refine wq_block ?_ | refine l_nil ?_ | refine d_nil ?_ | refine wq_skip ?_ | refine wq_ret ?_ | refine wq_exit ?_ | refine th_normal ?_ | refine th_ret ?_ | refine th_exit ?_ | refine bk_normal ?_ | refine bk_ret ?_ | refine bk_exit ?_ | refine bk_other rfl ?_)
        refine l_callG c1 ?_
        refine goM ?_
        refine l_callG (num_ _ _) ?_
        refine goM ?_
        refine l_callG c2 ?_
        refine goM ?_
        exact end_1 (by first | exact .inl rfl | exact .inr rfl) ⟨rfl, hM.pre⟩
end Go.Proofs.Ytekifjeckbndiaa.VM

/- Chapter 15: the statement StoreForms. -/
namespace Go.Proofs.Ytekifjeckbndiaa.VM
open Go
set_option linter.unusedVariables false
set_option linter.unusedSimpArgs false
attribute [local irreducible] wq wqL wqD wqE wqO Th Bk EndR
set_option maxHeartbeats 8000000

theorem u64_rem9 (x : Int) : ∃ q : Nat, q < 9 ∧ (IntKind.u64.wrap x).tmod 9 = (q : Int) := by
  have h : 0 ≤ IntKind.u64.wrap x := by
    unfold IntKind.wrap
    simp only [IntKind.bits, IntKind.signed, Bool.false_and, Bool.false_eq_true, if_false, Int.reducePow]
    omega
  have h1 := Int.tmod_lt_of_pos (IntKind.u64.wrap x) (show (0 : Int) < 9 by decide)
  have h2 := Int.tmod_nonneg 9 h
  exact ⟨((IntKind.u64.wrap x).tmod 9).toNat, by omega, by omega⟩
theorem may_one {e : Ent} (h : entOk e = false) : storeMay [e] = false :=
  may_fail (k := 0) (by simp) (by rw [okAt_zero (e := e) rfl, h]; rfl)
theorem bad_put {es : List Ent} (h : storeMay es = false) (s : ByteArray) : putS es s = ([], 0, 1500) := by
  unfold putS; rw [h, Bool.false_and, if_pos rfl]
theorem bad_drop {es : List Ent} (h : storeMay es = false) (id : Int) : dropS es id = ([], 1500) := by
  unfold dropS; rw [if_pos h]
theorem bad_get {es : List Ent} (h : storeMay es = false) (id : Int) : getS es id = (⟨#[]⟩, false) := by
  unfold getS; rw [if_pos h]
theorem bad_sweep {es : List Ent} (h : storeMay es = false) : sweepS es = ([], 1500) := by
  unfold sweepS; rw [if_pos h]
theorem put_found {es : List Ent} {s : ByteArray} (h : Store es) {k : Nat} {e : Ent} (he : es[k]? = some e) (hs : e.tx = s) (h8 : e.n ≠ 8) : putS es s = (bump es k 1, e.id, 0) := by
  have ht : textOk s = true := by
    have := h.ok e (List.mem_of_getElem? he)
    unfold entOk at this
    simp only [Bool.and_eq_true] at this
    rw [← hs]; exact this.1.2
  have hN : holdsN es s = k := holdsN_eq he hs fun j x hj hx => by
    cases hq : txEq x.tx s with
    | false => rfl
    | true =>
      have := h.one j k x e hx he (by rw [txEq_iff.1 hq, hs])
      omega
  unfold putS
  rw [of_store h, ht, if_neg (by decide), hN, he]
  simp only
  rw [if_neg h8]

def c7 (i : Nat) : Int := IntKind.i64.wrap ((BitVec.ofInt IntKind.i64.bits (i : Int) &&& BitVec.ofInt IntKind.i64.bits 7).toNat : Int)
theorem c7_in (i : Nat) : 0 ≤ c7 i ∧ c7 i ≤ 7 := by
  obtain ⟨y, hy, h0, h1⟩ := and_mask (i : Int) 7 (by decide) (by decide)
  unfold c7
  have e : IntKind.i64.wrap ((BitVec.ofInt IntKind.i64.bits (i : Int) &&& BitVec.ofInt IntKind.i64.bits 7).toNat : Int) = y := hy
  rw [e]; exact ⟨h0, h1⟩
def fullE (i : Nat) : Ent := ⟨(i : Int), strOf [(i : Int)], c7 i⟩
def fullL (k : Nat) : List Ent := (List.range k).map fullE
theorem fullL_step (k : Nat) : fullL (k + 1) = fullL k ++ [fullE k] := by
  unfold fullL; rw [List.range_succ, List.map_append]; rfl
theorem fullL_len (k : Nat) : (fullL k).length = k := by simp [fullL]
theorem fullL_at {k i : Nat} (h : i < k) : (fullL k)[i]? = some (fullE i) := by
  unfold fullL; rw [List.getElem?_map, List.getElem?_range h]; rfl
theorem full_store : Store (fullL 64) := by
  have at_ : ∀ (i : Nat) x, (fullL 64)[i]? = some x → i < 64 ∧ x = fullE i := fun i x hx => by
    have hlt := (List.getElem?_eq_some_iff.1 hx).1
    rw [fullL_len] at hlt
    rw [fullL_at hlt] at hx
    exact ⟨hlt, (Option.some.inj hx).symm⟩
  refine ⟨by rw [fullL_len]; decide, fun e he => ?_, fun i j x y hij hx hy => ?_, fun i j x y hx hy he => ?_⟩
  · obtain ⟨i, hi⟩ := List.mem_iff_getElem?.1 he
    obtain ⟨hlt, rfl⟩ := at_ i e hi
    have := c7_in i
    show (within (i : Int) 0 1024 && textOk (strOf [(i : Int)]) && within (c7 i) 0 8) = true
    have h2 : textOk (strOf [(i : Int)]) = true := by unfold textOk; rw [strOf_size]; rfl
    rw [within_iff.2 ⟨by omega, by omega⟩, h2, within_iff.2 ⟨by omega, by omega⟩]; rfl
  · obtain ⟨_, rfl⟩ := at_ i x hx
    obtain ⟨_, rfl⟩ := at_ j y hy
    show (i : Int) < (j : Int); omega
  · obtain ⟨hi, rfl⟩ := at_ i x hx
    obtain ⟨hj, rfl⟩ := at_ j y hy
    have h1 : (fullE i).tx.data.toList = (fullE j).tx.data.toList := by rw [he]
    unfold fullE at h1
    simp only [strOf_one, List.cons.injEq, and_true] at h1
    have h2 := congrArg UInt8.toNat h1
    rw [UInt8.toNat_ofNat', UInt8.toNat_ofNat'] at h2
    omega
theorem full_two : putS (fullL 64) ⟨#[122, 122]⟩ = ([], 0, 1501) := by
  have hN : holdsN (fullL 64) ⟨#[122, 122]⟩ = (fullL 64).length := holdsN_none fun j x hx => by
    have hlt := (List.getElem?_eq_some_iff.1 hx).1
    rw [fullL_len] at hlt
    rw [fullL_at hlt] at hx
    cases hx
    unfold txEq fullE
    rw [strOf_one]
    simp
  unfold putS
  rw [of_store full_store, hN, List.getElem?_eq_none (Nat.le_refl _), fullL_len]
  rfl
def strC (cs : List V) (s : ByteArray) : Prop := cs = [.str s]

theorem law_storeForms {D : Type} (K : Heap) (vs : List V) (ds : List (DataW D)) (ro : Ro K) (h : RdAll T K [3, 3] vs ds) : ∃ K', Call Try.prog 9 vs K (.bool true) K' := by
  obtain ⟨v1, vs, d1, ds, rfl, rfl, hv1, h⟩ := rdAll_cons h
  obtain ⟨v2, vs, d2, ds, rfl, rfl, hv2, h⟩ := rdAll_cons h
  obtain ⟨rfl, rfl⟩ := rdAll_nil h
  obtain ⟨n, rfl, _⟩ := hv1.int T3 rfl
  obtain ⟨x, rfl, _⟩ := hv2.int T3 rfl
  clear hv1 hv2 h
  obtain ⟨y, hy, hy0, hy1⟩ := and_mask x 127 (by decide) (by decide)
  replace hy : IntKind.i64.wrap ((BitVec.ofInt IntKind.i64.bits x &&& BitVec.ofInt IntKind.i64.bits 127).toNat : Int) = y := hy
  obtain ⟨z, hz, hz0, hz1⟩ := and_mask n 1 (by decide) (by decide)
  replace hz : IntKind.i64.wrap ((BitVec.ofInt IntKind.i64.bits n &&& BitVec.ofInt IntKind.i64.bits 1).toNat : Int) = z := hz
  obtain ⟨j, hj, hj0, hj1⟩ := and_mask x 63 (by decide) (by decide)
  replace hj : IntKind.i64.wrap ((BitVec.ofInt IntKind.i64.bits x &&& BitVec.ofInt IntKind.i64.bits 63).toNat : Int) = j := hj
  obtain ⟨jn, hjn⟩ : ∃ jn : Nat, j = jn := ⟨j.toNat, by omega⟩
  subst hjn
  obtain ⟨d, hd⟩ : ∃ d : Nat, 1 + y = d := ⟨(1 + y).toNat, by omega⟩
  have hd1 : IntKind.i64.wrap (1 + y) = (d : Int) := by rw [hd]; exact wrap_i64 (by omega) (by omega)
  have w1 : IntKind.i64.wrap (0 - (d : Int)) = 0 - (d : Int) := wrap_i64 (by omega) (by omega)
  have w2 : IntKind.i64.wrap (256 + (d : Int)) = ((256 + d : Nat) : Int) := by rw [wrap_i64 (by omega) (by omega)]; omega
  have w3 : IntKind.i64.wrap (1024 + (d : Int)) = 1024 + (d : Int) := wrap_i64 (by omega) (by omega)
  have w4 : IntKind.i64.wrap (8 + (d : Int)) = 8 + (d : Int) := wrap_i64 (by omega) (by omega)
  have wj : IntKind.u8.wrap (jn : Int) = (jn : Int) := by rw [wrap_u8]; omega
  obtain ⟨q, hq9, hq⟩ := u64_rem9 n
  have wq : IntKind.i64.wrap (q : Int) = q := wrap_nat (by omega)
  obtain ⟨long, hlong⟩ : ∃ s, strOf (List.replicate (256 + d) 0) = s := ⟨_, rfl⟩
  have hlsz : long.size = 256 + d := by rw [← hlong, strOf_size, List.length_replicate]
  have hlbad : textOk long = false := by unfold textOk; rw [hlsz, decide_eq_false (show ¬ 256 + d ≤ 256 by omega), Bool.and_false]
  have b3 : storeMay [⟨0 - (d : Int), txX, 0⟩] = false := may_one (by unfold entOk; have : within (0 - (d : Int)) 0 1024 = false := by rw [Bool.eq_false_iff, ne_eq, within_iff]; omega
                                                                      rw [this]; rfl)
  have b4 : storeMay [⟨1024 + (d : Int), txX, 0⟩] = false := may_one (by unfold entOk; have : within (1024 + (d : Int)) 0 1024 = false := by rw [Bool.eq_false_iff, ne_eq, within_iff]; omega
                                                                         rw [this]; rfl)
  have b5 : storeMay [⟨0, ⟨#[]⟩, 0⟩] = false := by rfl
  have b6 : storeMay [⟨0, long, 0⟩] = false := may_one (by unfold entOk; rw [hlbad]; rfl)
  have b7 : storeMay [⟨0, txX, 0 - (d : Int)⟩] = false := may_one (by unfold entOk; have : within (0 - (d : Int)) 0 8 = false := by rw [Bool.eq_false_iff, ne_eq, within_iff]; omega
                                                                      rw [this, Bool.and_false])
  have b8 : storeMay [⟨0, txX, 8 + (d : Int)⟩] = false := may_one (by unfold entOk; have : within (8 + (d : Int)) 0 8 = false := by rw [Bool.eq_false_iff, ne_eq, within_iff]; omega
                                                                      rw [this, Bool.and_false])
  have hpair : ∃ (zn : Nat) (s : ByteArray), z = zn ∧ ([⟨#[]⟩, long] : List ByteArray)[zn]? = some s ∧ textOk s = false := by
    have : z = 0 ∨ z = 1 := by omega
    rcases this with rfl | rfl
    · exact ⟨0, _, rfl, rfl, rfl⟩
    · exact ⟨1, _, rfl, rfl, hlbad⟩
  obtain ⟨zn, bs, rfl, hbs, hbst⟩ := hpair
  have hj64 : jn < 64 := by omega
  have hd128 : d ≤ 128 := by omega
  clear hy0 hy1 hz0 hz1 hj0 hj1 hlbad hlsz hd
  refine ⟨K, ?_⟩
  refine call_pure fit mixed Try.func9 rfl rfl rfl (by kernel_rfl) rfl fun hM => ?_
  refine goM ?_
  refine l_callG (awake15_ _) ?_
  refine goM ?_
  refine l_makeM 1 byteC T84 rfl T5 (n := 256 + d) (z := 0) rfl rfl rfl rfl rfl ⟨by show (1 : Int) * _ ≤ _; omega, by omega⟩ fun u0 H0 hM => ?_
  refine l_step (s_toStr eLk (hM.sl .here)) ?_
  rw [hlong]
  refine goM ?_
  refine l_sliceM entC [⟨3, txX, 0⟩, ⟨3, txY, 0⟩] [.int .i64 3, .str txX, .int .i64 0, .int .i64 3, .str txY, .int .i64 0] T66 rfl T86 rfl (cells_ents [⟨3, txX, 0⟩, ⟨3, txY, 0⟩]) (by decide) fun e0 H1 hM => ?_
  have t0 := (hM.sl .here).cells
  refine goM ?_
  refine l_sliceM entC [⟨4, txX, 0⟩, ⟨3, txY, 0⟩] [.int .i64 4, .str txX, .int .i64 0, .int .i64 3, .str txY, .int .i64 0] T66 rfl T86 rfl (cells_ents [⟨4, txX, 0⟩, ⟨3, txY, 0⟩]) (by decide) fun e1 H1 hM => ?_
  have t1 := (hM.sl .here).cells
  refine goM ?_
  refine l_sliceM entC [⟨3, txX, 0⟩, ⟨4, txX, 0⟩] [.int .i64 3, .str txX, .int .i64 0, .int .i64 4, .str txX, .int .i64 0] T66 rfl T86 rfl (cells_ents [⟨3, txX, 0⟩, ⟨4, txX, 0⟩]) (by decide) fun e2 H1 hM => ?_
  have t2 := (hM.sl .here).cells
  refine goM ?_
  refine l_sliceM entC [⟨0 - (d : Int), txX, 0⟩] [.int .i64 (0 - (d : Int)), .str txX, .int .i64 0] T66 rfl T86 rfl (cells_ents [⟨0 - (d : Int), txX, 0⟩]) (by decide) fun e3 H1 hM => ?_
  have t3 := (hM.sl .here).cells
  refine goM ?_
  refine l_sliceM entC [⟨1024 + (d : Int), txX, 0⟩] [.int .i64 (1024 + (d : Int)), .str txX, .int .i64 0] T66 rfl T86 rfl (cells_ents [⟨1024 + (d : Int), txX, 0⟩]) (by decide) fun e4 H1 hM => ?_
  have t4 := (hM.sl .here).cells
  refine goM ?_
  refine l_sliceM entC [⟨0, ⟨#[]⟩, 0⟩] [.int .i64 0, .str ⟨#[]⟩, .int .i64 0] T66 rfl T86 rfl (cells_ents [⟨0, ⟨#[]⟩, 0⟩]) (by decide) fun e5 H1 hM => ?_
  have t5 := (hM.sl .here).cells
  refine goM ?_
  refine l_sliceM entC [⟨0, long, 0⟩] [.int .i64 0, .str long, .int .i64 0] T66 rfl T86 rfl (cells_ents [⟨0, long, 0⟩]) (by decide) fun e6 H1 hM => ?_
  have t6 := (hM.sl .here).cells
  refine goM ?_
  refine l_sliceM entC [⟨0, txX, 0 - (d : Int)⟩] [.int .i64 0, .str txX, .int .i64 (0 - (d : Int))] T66 rfl T86 rfl (cells_ents [⟨0, txX, 0 - (d : Int)⟩]) (by decide) fun e7 H1 hM => ?_
  have t7 := (hM.sl .here).cells
  refine goM ?_
  refine l_sliceM entC [⟨0, txX, 8 + (d : Int)⟩] [.int .i64 0, .str txX, .int .i64 (8 + (d : Int))] T66 rfl T86 rfl (cells_ents [⟨0, txX, 8 + (d : Int)⟩]) (by decide) fun e8 H1 hM => ?_
  have t8 := (hM.sl .here).cells
  refine goM ?_
  refine l_sliceM oneVC [e0, e1, e2, e3, e4, e5, e6, e7, e8] [e0, e1, e2, e3, e4, e5, e6, e7, e8] T87 rfl T66 rfl (cells_of (R := oneVC) (fun x => [x]) (fun x => ⟨rfl, rfl⟩) [e0, e1, e2, e3, e4, e5, e6, e7, e8]) (by decide) fun eo H2 hM => ?_
  have hsel : ∃ (eb : V) (es : List Ent), [e0, e1, e2, e3, e4, e5, e6, e7, e8][q]? = some eb ∧ Sl 3 entC H2 eb es ∧ storeMay es = false ∧ es.length ≤ 2 := by
    match q, hq9 with
    | 0, _ => exact ⟨_, _, rfl, hM.sl (v := e0) (xs := [⟨3, txX, 0⟩, ⟨3, txY, 0⟩]) (by (repeat (first | exact Has.here | apply Has.there))), by rfl, by simp⟩
    | 1, _ => exact ⟨_, _, rfl, hM.sl (v := e1) (xs := [⟨4, txX, 0⟩, ⟨3, txY, 0⟩]) (by (repeat (first | exact Has.here | apply Has.there))), by rfl, by simp⟩
    | 2, _ => exact ⟨_, _, rfl, hM.sl (v := e2) (xs := [⟨3, txX, 0⟩, ⟨4, txX, 0⟩]) (by (repeat (first | exact Has.here | apply Has.there))), by rfl, by simp⟩
    | 3, _ => exact ⟨_, _, rfl, hM.sl (v := e3) (xs := [⟨0 - (d : Int), txX, 0⟩]) (by (repeat (first | exact Has.here | apply Has.there))), b3, by simp⟩
    | 4, _ => exact ⟨_, _, rfl, hM.sl (v := e4) (xs := [⟨1024 + (d : Int), txX, 0⟩]) (by (repeat (first | exact Has.here | apply Has.there))), b4, by simp⟩
    | 5, _ => exact ⟨_, _, rfl, hM.sl (v := e5) (xs := [⟨0, ⟨#[]⟩, 0⟩]) (by (repeat (first | exact Has.here | apply Has.there))), b5, by simp⟩
    | 6, _ => exact ⟨_, _, rfl, hM.sl (v := e6) (xs := [⟨0, long, 0⟩]) (by (repeat (first | exact Has.here | apply Has.there))), b6, by simp⟩
    | 7, _ => exact ⟨_, _, rfl, hM.sl (v := e7) (xs := [⟨0, txX, 0 - (d : Int)⟩]) (by (repeat (first | exact Has.here | apply Has.there))), b7, by simp⟩
    | 8, _ => exact ⟨_, _, rfl, hM.sl (v := e8) (xs := [⟨0, txX, 8 + (d : Int)⟩]) (by (repeat (first | exact Has.here | apply Has.there))), b8, by simp⟩
  obtain ⟨eb, es, hebq, hsl, hbad, hel⟩ := hsel
  obtain ⟨bo, oo, _, hio, rfl, _, hlo, _⟩ := (hM.sl .here).get T87 rfl T66 rfl hebq
  have hoo := loadV_one T66 rfl hlo
  have pK := hM.pre
  clear t0 t1 t2 t3 t4 t5 t6 t7 t8 b3 b4 b5 b6 b7 b8 hlo hebq hq9
  have hM : Mem H2 H2 [] := Mem.start H2
  refine goM ?_
  obtain ⟨_, H3, c1, a1, rfl, m1⟩ := put15_ H2 eb es txZ (hsl.mono hM.pre) (by omega)
  rw [bad_put hbad] at c1 m1
  refine l_callG c1 ?_
  replace hM := hM.grow m1.pre
  clear c1 m1 hio hoo
  refine goM ?_
  obtain ⟨_, H4, c1, a2, rfl, m1⟩ := drop15_ H3 eb es 3 (hsl.mono hM.pre) (by omega)
  rw [bad_drop hbad] at c1 m1
  refine l_callG c1 ?_
  replace hM := hM.grow m1.pre
  clear c1 m1
  refine goM ?_
  have c1 := get15_ H4 eb es 3 (hsl.mono hM.pre) (by omega)
  rw [bad_get hbad] at c1
  refine l_callG c1 ?_
  clear c1
  refine goM ?_
  obtain ⟨_, H5, c1, a3, rfl, m1⟩ := sweep15_ H4 eb es (hsl.mono hM.pre) (by omega)
  rw [bad_sweep hbad] at c1 m1
  refine l_callG c1 ?_
  replace hM := hM.grow m1.pre
  clear c1 m1
  refine goM ?_
  refine l_sliceM strC [⟨#[]⟩, long] [.str ⟨#[]⟩, .str long] T88 rfl T9 rfl (cells_of (R := strC) (fun x => [.str x]) (fun x => ⟨rfl, rfl⟩) [⟨#[]⟩, long]) (by decide) fun eq H6 hM => ?_
  obtain ⟨bo, oo, _, hio, rfl, _, hlo, _⟩ := (hM.sl .here).get T88 rfl T9 rfl hbs
  have hoo := loadV_one T9 rfl hlo
  clear hlo hbs
  refine goM ?_
  obtain ⟨_, H7, c1, a4, rfl, m1⟩ := put15_ H6 .nils [] bs (.inl ⟨rfl, rfl⟩) (by decide)
  rw [put_bad hbst] at c1 m1
  refine l_callG c1 ?_
  replace hM := (hM.sub (L' := []) (by simp)).grow m1.pre
  clear c1 m1 hio hoo
  refine goM ?_
  replace hM := hM.nil 3 entC
  refine wq_loop (fun c ρ h => ∃ (k : Nat) (u : V), k ≤ 64 ∧ c = 64 - k ∧ Mem H2 h [.own 3 entC u (fullL k)] ∧ ρ 0 = .int .i64 n ∧ ρ 1 = .int .i64 x ∧ ρ 8 = eb ∧ ρ 11 = .int .i64 1500 ∧ ρ 13 = .int .i64 1500 ∧ ρ 15 = .bool false ∧ ρ 17 = .int .i64 1500 ∧ ρ 20 = .int .i64 1500 ∧ ρ 21 = u ∧ ρ 22 = .int .i64 (k : Int)) ⟨0, .nils, Nat.zero_le _, rfl, hM, rfl, rfl, rfl, rfl, rfl, rfl, rfl, rfl, rfl, rfl⟩ ?_
  clear hM
  rintro _ ρ h ⟨k, u, hk, rfl, hM, g0, g1, g8, g11, g13, g15, g17, g20, g21, g22⟩
  refine goM ?_
  refine cond_go (fun hb => ?_) (fun hb => ?_)
  · have hk' : k < 64 := by simp at hb; omega
    clear hb
    have hstep := fullL_step k
    have hfl := fullL_len k
    have hw := wrap_succ (n := k) (by omega)
    have w8 : IntKind.u8.wrap (k : Int) = (k : Int) := by rw [wrap_u8]; omega
    have h7 : IntKind.i64.wrap ((BitVec.ofInt IntKind.i64.bits (k : Int) &&& BitVec.ofInt IntKind.i64.bits 7).toNat : Int) = c7 k := rfl
    refine goM ?_
    refine l_sliceM byteC [(k : Int)] [.int .u8 (k : Int)] T84 rfl T5 rfl (Cells.one (sz := 1) rfl rfl) (by decide) fun e1 H8 hM => ?_
    refine l_step (s_toStr eLk (hM.sl .here)) ?_
    refine goM ?_
    refine l_sliceM entC [fullE k] (entV (fullE k)) T66 rfl T86 rfl (cells_ents [fullE k]) (by decide) fun e2 H9 hM => ?_
    refine goM ?_
    refine l_appM (hM.sl .here) (xs := fullL k) (hh := .there (.there .here)) (hb := by simp only [List.length_cons, List.length_nil]; omega) fun u2 H10 hM => ?_
    rw [← hstep] at hM
    clear hstep hfl
    refine goM ?_
    exact ⟨64 - (k + 1), by omega, k + 1, u2, hk', rfl, hM.subG, by simp [put_app, put_none, *]⟩
  · have hk' : k = 64 := by simp at hb; omega
    subst hk'
    clear hb g22
    have hfl := fullL_len 64
    have hje := fullL_at hj64
    have h7 := c7_in jn
    have hpf := put_found full_store hje (s := strOf [(jn : Int)]) rfl (by show c7 jn ≠ 8; omega)
    have hbl := bump_len (fullL 64) jn 1
    rw [hfl] at hbl
    have hmf := of_store full_store
    obtain ⟨_, H8, c1, a1, rfl, m1⟩ := put15_ h u (fullL 64) ⟨#[122, 122]⟩ (hM.sl .here) (by omega)
    rw [full_two] at c1 m1
    refine goM ?_
    refine l_callG c1 ?_
    replace hM := hM.call1 m1
    clear c1 m1
    refine goM ?_
    refine l_sliceM byteC [(jn : Int)] [.int .u8 (jn : Int)] T84 rfl T5 rfl (Cells.one (sz := 1) rfl rfl) (by decide) fun e1 H9 hM => ?_
    refine l_step (s_toStr eLk (hM.sl .here)) ?_
    refine goM ?_
    obtain ⟨_, H10, c1, a2, rfl, m1⟩ := put15_ H9 u (fullL 64) (strOf [(jn : Int)]) (hM.sl (.there (.there .here))) (by omega)
    rw [hpf] at c1 m1
    refine l_callG c1 ?_
    have hla := (m1.sl .here).len T66 rfl
    simp only at hla
    rw [hbl] at hla
    replace hM := hM.call1 m1
    clear c1 m1
    refine goM ?_
    refine l_sliceM entC [⟨0, txX, 8⟩] [.int .i64 0, .str txX, .int .i64 8] T66 rfl T86 rfl (cells_ents [⟨0, txX, 8⟩]) (by decide) fun e3 H11 hM => ?_
    refine goM ?_
    obtain ⟨_, H12, c1, a3, rfl, m1⟩ := put15_ H11 e3 [⟨0, txX, 8⟩] txX (hM.sl .here) (by decide)
    have htop : putS [⟨0, txX, 8⟩] txX = ([], 0, 1501) := by rfl
    rw [htop] at c1 m1
    refine l_callG c1 ?_
    replace hM := hM.call1 m1
    clear c1 m1 htop
    refine goM ?_
    have c1 := storeMay_ H12 eb es (hsl.mono hM.pre) (by omega)
    have c2 := storeMay_ H12 u (fullL 64) (hM.sl (v := u) (xs := fullL 64) (by (repeat (first | exact Has.here | apply Has.there)))) (by omega)
    rw [hbad] at c1
    rw [hmf] at c2
    have hid : (fullE jn).id = (jn : Int) := rfl
    rw [hid]
    refine l_callG c1 ?_
    refine goM ?_
    refine l_callG c2 ?_
    refine goM ?_
    refine l_callG (num_ _ _) ?_
    refine goM ?_
    refine l_callG (num_ _ _) ?_
    refine goM ?_
    refine l_callG (num_ _ _) ?_
    refine goM ?_
    refine l_callG (num_ _ _) ?_
    refine goM ?_
    refine l_callG (num_ _ _) ?_
    refine goM ?_
    refine l_callG (num_ _ _) ?_
    refine goM ?_
    refine l_callG (num_ _ _) ?_
    refine goM ?_
    exact end_1 (by first | exact .inl rfl | exact .inr rfl) ⟨rfl, pK.trans hM.pre⟩
end Go.Proofs.Ytekifjeckbndiaa.VM

/- Chapter 15, the plain law of StoreCounts: four texts, how often each is held, under which number. -/
namespace Go.Proofs.Ytekifjeckbndiaa.VM
open Go
set_option linter.unusedVariables false
set_option linter.unusedSimpArgs false
attribute [local irreducible] wq wqL wqD wqE wqO Th Bk EndR
set_option maxHeartbeats 8000000

def tkS (k : Nat) : ByteArray := (⟨#[116]⟩ : ByteArray) ++ strOf [97 + (k : Int)]
theorem tkS_at {k : Nat} (h : k < 4) : tkS k = ⟨#[116, UInt8.ofNat (97 + k)]⟩ := by
  match k, h with
  | 0, _ => rfl
  | 1, _ => rfl
  | 2, _ => rfl
  | 3, _ => rfl
theorem tkS_ok {k : Nat} (h : k < 4) : textOk (tkS k) = true := by
  match k, h with
  | 0, _ => rfl
  | 1, _ => rfl
  | 2, _ => rfl
  | 3, _ => rfl
theorem tkS_inj {j k : Nat} (hj : j < 4) (hk : k < 4) (h : tkS j = tkS k) : j = k := by
  rw [tkS_at hj, tkS_at hk] at h
  have h1 := congrArg (fun b : ByteArray => b.data.toList) h
  simp only [List.cons.injEq, and_true, true_and] at h1
  have h2 := congrArg UInt8.toNat h1
  rw [UInt8.toNat_ofNat', UInt8.toNat_ofNat'] at h2
  omega
def upd (f : Nat → Int) (k : Nat) (v : Int) : Nat → Int := fun j => if j = k then v else f j
theorem upd_self (f : Nat → Int) (k : Nat) (v : Int) : upd f k v k = v := if_pos rfl
theorem upd_ne (f : Nat → Int) {k j : Nat} (v : Int) (h : j ≠ k) : upd f k v j = f j := if_neg h
def arrL (f : Nat → Int) : List V := (List.range 4).map fun j => .int .i64 (f j)
theorem arrL_len (f : Nat → Int) : (arrL f).length = 4 := by simp [arrL]
theorem arrL_zero : List.replicate 4 (V.int .i64 0) = arrL fun _ => 0 := rfl
theorem arrL_get {f : Nat → Int} {k : Nat} (h : k < 4) : (arrL f)[k]? = some (.int .i64 (f k)) := by
  unfold arrL
  rw [List.getElem?_map, List.getElem?_range h]; rfl
theorem arrL_set {f : Nat → Int} {k : Nat} (v : Int) (h : k < 4) : (arrL f).set k (.int .i64 v) = arrL (upd f k v) := by
  apply List.ext_getElem?
  intro j
  by_cases hj : j < 4
  · rw [arrL_get hj, List.getElem?_set]
    by_cases hk : k = j
    · subst hk
      rw [if_pos rfl, if_pos (by rw [arrL_len]; exact h), upd_self]
    · rw [if_neg hk, arrL_get hj, upd_ne _ _ (Ne.symm hk)]
  · rw [List.getElem?_eq_none (by rw [List.length_set, arrL_len]; omega), List.getElem?_eq_none (by rw [arrL_len]; omega)]

/-- what is held, under which numbers -/
structure Held4 (es : List Ent) (h i : Nat → Int) : Prop where
  st : Store es
  tx : ∀ e ∈ es, ∃ k, k < 4 ∧ e.tx = tkS k ∧ e.id = i k ∧ e.n = h k
  rg : ∀ k, k < 4 → 0 ≤ h k ∧ h k ≤ 8
  ex : ∀ k, k < 4 → 0 < h k → ∃ e ∈ es, e.tx = tkS k
theorem store_nil : Store [] := ⟨by decide, fun e h => (by cases h), fun i j x y _ h => (by cases h), fun i j x y h => (by cases h)⟩
theorem held_nil : Held4 [] (fun _ => 0) fun _ => 0 := ⟨store_nil, fun e h => (by cases h), fun k _ => ⟨Int.le_refl _, by decide⟩, fun k _ h => absurd h (Int.lt_irrefl 0)⟩
theorem held_at {es : List Ent} {h i : Nat → Int} (H : Held4 es h i) {k : Nat} (hk : k < 4) {e : Ent} (he : e ∈ es) (ht : e.tx = tkS k) : e.id = i k ∧ e.n = h k := by
  obtain ⟨j, hj, h1, h2, h3⟩ := H.tx e he
  have := tkS_inj hj hk (by rw [← h1, ht])
  subst this
  exact ⟨h2, h3⟩
theorem held_bump {es : List Ent} {h i : Nat → Int} (H : Held4 es h i) {k p : Nat} (hk : k < 4) {e : Ent} (hp : es[p]? = some e) (ht : e.tx = tkS k) (d : Int) (hd : 0 ≤ h k + d ∧ h k + d ≤ 8) : Held4 (bump es p d) (upd h k (h k + d)) i := by
  have hm := List.mem_of_getElem? hp
  obtain ⟨h1, h2⟩ := held_at H hk hm ht
  refine ⟨bump_store H.st hp (by rw [h2]; exact hd), fun x hx => ?_, fun j hj => ?_, fun j hj hlt => ?_⟩
  · rw [bump_at d hp] at hx
    rcases List.mem_or_eq_of_mem_set hx with hx' | rfl
    · obtain ⟨j, hj, g1, g2, g3⟩ := H.tx x hx'
      by_cases hjk : j = k
      · subst hjk
        obtain ⟨q, hq⟩ := List.mem_iff_getElem?.1 hx
        have hlt := (List.getElem?_eq_some_iff.1 hp).1
        by_cases hqp : p = q
        · subst hqp
          rw [List.getElem?_set_self hlt] at hq
          have hq := (Option.some.inj hq).symm
          refine ⟨j, hj, g1, g2, ?_⟩
          rw [upd_self, hq, h2]
        · rw [List.getElem?_set_ne hqp] at hq
          exact absurd (H.st.one p q e x hp hq (by rw [ht, g1])) hqp
      · exact ⟨j, hj, g1, g2, by rw [upd_ne _ _ hjk]; exact g3⟩
    · exact ⟨k, hk, ht, h1, by rw [upd_self, h2]⟩
  · by_cases hjk : j = k
    · subst hjk; rw [upd_self]; exact hd
    · rw [upd_ne _ _ hjk]; exact H.rg j hj
  · have : ∃ e ∈ es, e.tx = tkS j := by
      by_cases hjk : j = k
      · subst hjk; exact ⟨e, hm, ht⟩
      · rw [upd_ne _ _ hjk] at hlt; exact H.ex j hj hlt
    obtain ⟨x, hx, hxt⟩ := this
    obtain ⟨y, a, _, c⟩ := key_mem (bump_key es p d) hx
    exact ⟨y, a, by rw [c, hxt]⟩

def txL (e : Ent) : List UInt8 := e.tx.data.toList
def tkL (k : Nat) : List UInt8 := (tkS k).data.toList
theorem txL_inj {a b : ByteArray} (h : a.data.toList = b.data.toList) : a = b := ByteArray.ext (Array.toList_inj.1 h)
theorem tkL_inj {j k : Nat} (hj : j < 4) (hk : k < 4) (h : tkL j = tkL k) : j = k := tkS_inj hj hk (txL_inj h)
theorem nodup_tx {es : List Ent} (h : Store es) : (es.map txL).Nodup := by
  unfold List.Nodup
  rw [List.pairwise_map, List.pairwise_iff_getElem]
  intro i j hi hj hij he
  have := h.one i j _ _ (List.getElem?_eq_getElem hi) (List.getElem?_eq_getElem hj) (txL_inj he)
  omega
theorem len_four : ∀ l : List (List UInt8), (∀ x ∈ l, ∃ k, k < 4 ∧ x = tkL k) → l.length = l.count (tkL 0) + l.count (tkL 1) + l.count (tkL 2) + l.count (tkL 3)
  | [], _ => rfl
  | x :: l, h => by
    have ih := len_four l fun y hy => h y (List.mem_cons_of_mem _ hy)
    obtain ⟨k, hk, rfl⟩ := h x List.mem_cons_self
    have hc : ∀ j, j < 4 → (tkL k :: l).count (tkL j) = l.count (tkL j) + if k = j then 1 else 0 := fun j hj => by
      rw [List.count_cons]
      congr 1
      by_cases hkj : k = j
      · subst hkj; simp
      · rw [if_neg hkj, if_neg]
        intro e
        exact hkj (tkL_inj hk hj (beq_iff_eq.1 e))
    rw [List.length_cons, ih, hc 0 (by decide), hc 1 (by decide), hc 2 (by decide), hc 3 (by decide)]
    match k, hk with
    | 0, _ => simp; omega
    | 1, _ => simp; omega
    | 2, _ => simp; omega
    | 3, _ => simp; omega
def oneN (h : Nat → Int) (k : Nat) : Nat := if 0 < h k then 1 else 0
def manyN (h : Nat → Int) : Nat → Nat
  | 0 => 0
  | k + 1 => manyN h k + oneN h k
theorem manyN_le (h : Nat → Int) : ∀ k, manyN h k ≤ k
  | 0 => Nat.le_refl _
  | k + 1 => by
    have := manyN_le h k
    unfold manyN oneN
    split <;> omega
theorem held_len {es : List Ent} {h i : Nat → Int} (H : Held4 es h i) : es.length ≤ 4 := by
  have h1 := len_four (es.map txL) fun x hx => by
    obtain ⟨e, he, rfl⟩ := List.mem_map.1 hx
    obtain ⟨k, hk, ht, _⟩ := H.tx e he
    exact ⟨k, hk, by unfold txL tkL; rw [ht]⟩
  have h2 := List.nodup_iff_count.1 (nodup_tx H.st)
  have a := h2 (tkL 0)
  have b := h2 (tkL 1)
  have c := h2 (tkL 2)
  have d := h2 (tkL 3)
  rw [List.length_map] at h1
  omega
theorem held_many {es : List Ent} {h i : Nat → Int} (H : Held4 es h i) (hz : ∀ e ∈ es, e.n ≠ 0) : es.length = manyN h 4 := by
  have h1 := len_four (es.map txL) fun x hx => by
    obtain ⟨e, he, rfl⟩ := List.mem_map.1 hx
    obtain ⟨k, hk, ht, _⟩ := H.tx e he
    exact ⟨k, hk, by unfold txL tkL; rw [ht]⟩
  have hc : ∀ k, k < 4 → (es.map txL).count (tkL k) = oneN h k := fun k hk => by
    unfold oneN
    by_cases hp : 0 < h k
    · obtain ⟨e, he, ht⟩ := H.ex k hk hp
      rw [if_pos hp]
      have a := List.nodup_iff_count.1 (nodup_tx H.st) (tkL k)
      have b := List.count_pos_iff.2 (show tkL k ∈ es.map txL from List.mem_map.2 ⟨e, he, by unfold txL tkL; rw [ht]⟩)
      omega
    · rw [if_neg hp]
      apply List.count_eq_zero_of_not_mem
      intro hm
      obtain ⟨e, he, ht⟩ := List.mem_map.1 hm
      have a := (held_at H hk he (txL_inj ht)).2
      have b := hz e he
      have c := H.rg k hk
      omega
  rw [List.length_map, hc 0 (by decide), hc 1 (by decide), hc 2 (by decide), hc 3 (by decide)] at h1
  rw [h1]
  simp only [manyN]
  omega

theorem held_put {es : List Ent} {h i : Nat → Int} (H : Held4 es h i) {k : Nat} (hk : k < 4) (h8 : h k < 8) :
    ∃ es' id, putS es (tkS k) = (es', id, 0) ∧ (0 < h k → id = i k) ∧ Held4 es' (upd h k (h k + 1)) (upd i k id) := by
  have hr := H.rg k hk
  by_cases hex : ∃ e ∈ es, e.tx = tkS k
  · obtain ⟨e, he, ht⟩ := hex
    obtain ⟨p, hp⟩ := List.mem_iff_getElem?.1 he
    obtain ⟨h1, h2⟩ := held_at H hk he ht
    have hput := put_found H.st hp ht (by omega)
    have hb := held_bump H hk hp ht 1 (by omega)
    have hi : upd i k e.id = i := by
      funext j
      by_cases hj : j = k
      · subst hj; rw [upd_self, h1]
      · rw [upd_ne _ _ hj]
    exact ⟨_, _, hput, fun _ => h1, by rw [hi]; exact hb⟩
  · have hno : ∀ e ∈ es, e.tx ≠ tkS k := fun e he ht => hex ⟨e, he, ht⟩
    have hl := held_len H
    have h0 : h k = 0 := by
      by_cases hp : 0 < h k
      · exact absurd (H.ex k hk hp) hex
      · omega
    have hput := put_new H.st (tkS_ok hk) hno (by omega)
    refine ⟨_, _, hput, fun hp => by omega, ins_store H.st (tkS_ok hk) (by decide) hno (by omega), fun e he => ?_, fun j hj => ?_, fun j hj hlt => ?_⟩
    · rcases ins_mem.1 he with he | rfl
      · obtain ⟨j, hj, g1, g2, g3⟩ := H.tx e he
        have hjk : j ≠ k := fun e' => hno e he (by rw [g1, e'])
        exact ⟨j, hj, g1, by rw [upd_ne _ _ hjk]; exact g2, by rw [upd_ne _ _ hjk]; exact g3⟩
      · exact ⟨k, hk, rfl, by rw [upd_self], by rw [upd_self, h0]; rfl⟩
    · by_cases hjk : j = k
      · subst hjk; rw [upd_self]; omega
      · rw [upd_ne _ _ hjk]; exact H.rg j hj
    · by_cases hjk : j = k
      · subst hjk; exact ⟨_, ins_mem.2 (.inr rfl), rfl⟩
      · rw [upd_ne _ _ hjk] at hlt
        obtain ⟨e, he, ht⟩ := H.ex j hj hlt
        exact ⟨e, ins_mem.2 (.inl he), ht⟩
theorem held_drop {es : List Ent} {h i : Nat → Int} (H : Held4 es h i) {k : Nat} (hk : k < 4) (h0 : 0 < h k) :
    ∃ es', dropS es (i k) = (es', 0) ∧ Held4 es' (upd h k (h k - 1)) i := by
  have hr := H.rg k hk
  obtain ⟨e, he, ht⟩ := H.ex k hk h0
  obtain ⟨p, hp⟩ := List.mem_iff_getElem?.1 he
  obtain ⟨h1, h2⟩ := held_at H hk he ht
  have hd := drop_at H.st hp (by omega)
  rw [h1] at hd
  exact ⟨_, hd, held_bump H hk hp ht (-1) (by omega)⟩
theorem filter_store {es : List Ent} (h : Store es) (p : Ent → Bool) : Store (es.filter p) := by
  have hup : (es.filter p).Pairwise fun x y => x.id < y.id := by
    refine List.Pairwise.filter p ?_
    rw [List.pairwise_iff_getElem]
    intro i j hi hj hij
    exact h.up i j _ _ hij (List.getElem?_eq_getElem hi) (List.getElem?_eq_getElem hj)
  have hone : (es.filter p).Pairwise fun x y => x.tx ≠ y.tx := by
    refine List.Pairwise.filter p ?_
    rw [List.pairwise_iff_getElem]
    intro i j hi hj hij he
    have := h.one i j _ _ (List.getElem?_eq_getElem hi) (List.getElem?_eq_getElem hj) he
    omega
  rw [List.pairwise_iff_getElem] at hup hone
  refine ⟨Nat.le_trans (List.length_filter_le _ _) h.len, fun e he => h.ok e (List.mem_filter.1 he).1, fun i j x y hij hx hy => ?_, fun i j x y hx hy he => ?_⟩
  · obtain ⟨a1, rfl⟩ := List.getElem?_eq_some_iff.1 hx
    obtain ⟨b1, rfl⟩ := List.getElem?_eq_some_iff.1 hy
    exact hup i j a1 b1 hij
  · obtain ⟨a1, rfl⟩ := List.getElem?_eq_some_iff.1 hx
    obtain ⟨b1, rfl⟩ := List.getElem?_eq_some_iff.1 hy
    rcases Nat.lt_trichotomy i j with hlt | heq | hgt
    · exact absurd he (hone i j a1 b1 hlt)
    · exact heq
    · exact absurd he.symm (hone j i b1 a1 hgt)
theorem held_sweep {es : List Ent} {h i : Nat → Int} (H : Held4 es h i) :
    ∃ es', sweepS es = (es', 0) ∧ Held4 es' h i ∧ ∀ e ∈ es', e.n ≠ 0 := by
  refine ⟨_, sweep_ok H.st, ⟨filter_store H.st _, fun e he => H.tx e (List.mem_filter.1 he).1, H.rg, fun k hk h0 => ?_⟩, fun e he => of_decide_eq_true (List.mem_filter.1 he).2⟩
  obtain ⟨e, he, ht⟩ := H.ex k hk h0
  have h2 := (held_at H hk he ht).2
  exact ⟨e, List.mem_filter.2 ⟨he, decide_eq_true (by omega)⟩, ht⟩
theorem held_get {es : List Ent} {h i : Nat → Int} (H : Held4 es h i) {k : Nat} (hk : k < 4) (h0 : 0 < h k) : getS es (i k) = (tkS k, true) := by
  obtain ⟨e, he, ht⟩ := H.ex k hk h0
  obtain ⟨p, hp⟩ := List.mem_iff_getElem?.1 he
  have h1 := (held_at H hk he ht).1
  rw [← h1, get_some H.st hp, ht]
end Go.Proofs.Ytekifjeckbndiaa.VM

/- Chapter 15: the statement StoreCounts. -/
namespace Go.Proofs.Ytekifjeckbndiaa.VM
open Go
set_option linter.unusedVariables false
set_option linter.unusedSimpArgs false
attribute [local irreducible] wq wqL wqD wqE wqO Th Bk EndR
set_option maxHeartbeats 8000000

theorem two_sh (t : Int) : vbin T .shr 3 (.int .i64 t) (.int .u64 2) = some (.int .i64 (t.fdiv (2 ^ (min 2 IntKind.i64.bits)))) := by
  simp only [vbin, shiftBin]
  rw [if_neg (by omega)]; rfl
theorem tk_add (k : Nat) : vbin T .add 9 (.str ⟨#[116]⟩) (.str (strOf [97 + (k : Int)])) = some (.str (tkS k)) := rfl

theorem row_at {K : Heap} {v : V} {xs : List Int} (hx : Sl 1 intC K v xs) {i : Nat} {x : Int} (hg : xs[i]? = some x) : ∃ b o, idxV T 27 v (i : Int) = some (.ptr b o) ∧ ∀ H, K <+: H → loadV T 3 H b o = some (.int .i64 x) := by
  obtain ⟨b, o, _, hi, rfl, _⟩ := hx.get T27 rfl T3 rfl hg
  refine ⟨b, o, hi, fun H hp => ?_⟩
  obtain ⟨b', o', _, hi', rfl, _, hlo, _⟩ := (hx.mono hp).get T27 rfl T3 rfl hg
  rw [hi] at hi'
  cases hi'
  exact loadV_one T3 rfl hlo

theorem law_storeCounts {D : Type} (K : Heap) (vs : List V) (ds : List (DataW D)) (ro : Ro K) (h : RdAll T K [27] vs ds) : ∃ K', Call Try.prog 10 vs K (.bool true) K' := by
  obtain ⟨v1, vs, d1, ds, rfl, rfl, hv1, h⟩ := rdAll_cons h
  obtain ⟨rfl, rfl⟩ := rdAll_nil h
  obtain ⟨xs, hx, lx⟩ := rd_ints hv1
  replace lx : xs.length * 8 ≤ 140737488351232 := lx
  clear hv1 h
  have hlen := hx.len T27 rfl
  obtain ⟨n, hn⟩ : ∃ n, xs.length = n := ⟨_, rfl⟩
  rw [hn] at hlen lx
  refine ⟨K, ?_⟩
  refine call_pure fit mixed Try.func10 rfl rfl rfl (by kernel_rfl) rfl fun hM => ?_
  refine goM ?_
  refine l_callG (awake15_ _) ?_
  refine goM ?_
  refine l_newM (cs := List.replicate 4 (.int .i64 0)) T89 rfl fun b3 H3 hM => ?_
  refine goM ?_
  refine l_newM (cs := List.replicate 4 (.int .i64 0)) T89 rfl fun b4 H4 hM => ?_
  rw [arrL_zero] at hM
  refine goM ?_
  replace hM := hM.nil 3 entC
  refine wq_loop (fun c ρ h => ∃ (i : Nat) (u : V) (E : List Ent) (hh ii : Nat → Int), i ≤ 40 ∧ c = 40 - i ∧ Held4 E hh ii ∧ Mem K h [.own 3 entC u E, .box b4 (arrL ii), .box b3 (arrL hh)] ∧ ρ 0 = v1 ∧ ρ 3 = u ∧ ρ 4 = .ptr b3 0 ∧ ρ 5 = .ptr b4 0 ∧ ρ 6 = .int .i64 (i : Int)) ⟨0, .nils, [], _, _, Nat.zero_le _, rfl, held_nil, hM, rfl, rfl, rfl, rfl, rfl⟩ ?_
  clear hM
  rintro _ ρ h ⟨i, u, E, hh, ii, hi, rfl, hH, hM, g0, g3, g4, g5, g6⟩
  have hE4 := held_len hH
  by_cases hin : i < n ∧ i < 40
  · have d1 : decide ((i : Int) < (n : Int)) = true := decide_eq_true (by omega)
    have d2 : decide ((i : Int) < 40) = true := decide_eq_true (by omega)
    have hi40 : i < 40 := hin.2
    have hg : xs[i]? = some (xs.getD i 0) := by
      rw [List.getD_eq_getElem?_getD, List.getElem?_eq_getElem (by omega)]; rfl
    obtain ⟨b1, o1, hi1, hrow⟩ := row_at hx hg
    have ho1 := hrow h hM.pre
    have hwi := wrap_succ (n := i) (by omega)
    generalize xs.getD i 0 = x at *
    obtain ⟨y, hy, hy0, hy1⟩ := and_mask x 3 (by decide) (by decide)
    replace hy : IntKind.i64.wrap ((BitVec.ofInt IntKind.i64.bits x &&& BitVec.ofInt IntKind.i64.bits 3).toNat : Int) = y := hy
    obtain ⟨k, rfl⟩ : ∃ k : Nat, y = k := ⟨y.toNat, by omega⟩
    have hk4 : k < 4 := by omega
    have w97 : IntKind.i64.wrap (97 + (k : Int)) = 97 + (k : Int) := wrap_i64 (by omega) (by omega)
    have w8 : IntKind.u8.wrap (97 + (k : Int)) = 97 + (k : Int) := by rw [wrap_u8]; omega
    have hadd := tk_add k
    have hsh := two_sh x
    obtain ⟨w, hw⟩ : ∃ w, x.fdiv (2 ^ (min 2 IntKind.i64.bits)) = w := ⟨_, rfl⟩
    rw [hw] at hsh
    obtain ⟨q, hq, hq0, hq1⟩ := and_mask w 3 (by decide) (by decide)
    replace hq : IntKind.i64.wrap ((BitVec.ofInt IntKind.i64.bits w &&& BitVec.ofInt IntKind.i64.bits 3).toNat : Int) = q := hq
    have hix3 : idxV T 89 (.ptr b3 0) (k : Int) = some (.ptr b3 (0 + k)) := arr_idx T89 rfl T3 rfl hk4
    have hix4 : idxV T 89 (.ptr b4 0) (k : Int) = some (.ptr b4 (0 + k)) := arr_idx T89 rfl T3 rfl hk4
    rw [Nat.zero_add] at hix3 hix4
    have hrk := hH.rg k hk4
    clear hw hin hg hy0 hy1 hn lx
    by_cases hA : q < 2 ∧ hh k < 8
    · have dq := decide_eq_true hA.1
      have dh := decide_eq_true hA.2
      obtain ⟨E', id, hput, hid, hH'⟩ := held_put hH hk4 hA.2
      have wh : IntKind.i64.wrap (hh k + 1) = hh k + 1 := wrap_i64 (by omega) (by omega)
      clear hq0 hq1 hA
      refine goM ?_
      refine l_sliceM byteC [97 + (k : Int)] [.int .u8 (97 + (k : Int))] T84 rfl T5 rfl (Cells.one (sz := 1) rfl rfl) (by decide) fun e1 H5 hM => ?_
      refine l_step (s_toStr eLk (hM.sl .here)) ?_
      have hld := hM.ld (.there (.there (.there .here))) T3 rfl (arrL_get hk4)
      have ho5 := hrow H5 hM.pre
      repeat (first | (refine l_pl ?_; refine l_step (s_bin eLk eLk hadd) ?_) | (refine l_pl ?_; refine l_step (s_bin eLk eLk hsh) ?_) | (refine l_gd ?_; refine l_onG ?_; refine l_step (s_bin eLk eLk hsh) ?_) | (refine l_pl ?_; refine l_goM ?_) | (refine d_pl ?_; refine d_goM ?_) | (refine l_gd ?_; first | refine l_onG ?_ | refine l_offG ?_ | refine l_offU ?_) | (refine d_gd ?_; first | refine d_onG ?_ | refine d_offG ?_ | refine d_offU ?_) | (refine cond_pl ?_; first | refine cond_yes ?_ | refine cond_no ?_) | refine wq_seq ?_ | refine wq_line ?_ | refine wq_draw (by decide +kernel) ?_ | refine wq_block ?_ | refine l_nil ?_ | refine d_nil ?_ | refine wq_skip ?_ | refine wq_ret ?_ | refine wq_exit ?_ | refine th_normal ?_ | refine th_ret ?_ | refine th_exit ?_ | refine bk_normal ?_ | refine bk_ret ?_ | refine bk_exit ?_ | refine bk_other rfl ?_)
      obtain ⟨_, H6, c1, a, rfl, m1⟩ := put15_ H5 u E (tkS k) (hM.sl (.there .here)) (by omega)
      rw [hput] at c1 m1
      refine l_callG c1 ?_
      replace hM := hM.call1 m1
      clear c1 m1 hld ho5 hput
      have ld3 := hM.ld (.there (.there (.there (.there .here)))) T3 rfl (arrL_get hk4)
      have ld4 := hM.ld (.there (.there (.there .here))) T3 rfl (arrL_get hk4)
      obtain ⟨H7, st4, hM1⟩ := hM.put (.there (.there (.there .here))) T3 (off := k) (v := .int .i64 id) (ds := [.int .i64 id]) rfl rfl rfl (by rw [arrL_len]; exact hk4) rfl
      replace hM1 : Mem K H7 [.own 3 entC a E', .own 1 byteC e1 [97 + (k : Int)], .own 3 entC u E, .box b4 ((arrL ii).set k (.int .i64 id)), .box b3 (arrL hh)] := hM1
      rw [arrL_set _ hk4] at hM1
      have ld5 := hM1.ld (.there (.there (.there (.there .here)))) T3 rfl (arrL_get hk4)
      obtain ⟨H8, st3, hM2⟩ := hM1.put (.there (.there (.there (.there .here)))) T3 (off := k) (v := .int .i64 (hh k + 1)) (ds := [.int .i64 (hh k + 1)]) rfl rfl rfl (by rw [arrL_len]; exact hk4) rfl
      replace hM2 : Mem K H8 [.own 3 entC a E', .own 1 byteC e1 [97 + (k : Int)], .own 3 entC u E, .box b4 (arrL (upd ii k id)), .box b3 ((arrL hh).set k (.int .i64 (hh k + 1)))] := hM2
      rw [arrL_set _ hk4] at hM2
      by_cases hp : hh k > 0
      · have dp := decide_eq_true hp
        have hne : (id != ii k) = false := by rw [hid hp]; simp
        clear hid hrk hM hM1
        refine goM ?_
        refine l_callG (num_ _ _) ?_
        refine goM ?_
        refine l_stM st4 ?_
        refine goM ?_
        refine l_stM st3 ?_
        refine goM ?_
        exact ⟨40 - (i + 1), by omega, i + 1, a, E', _, _, hi40, rfl, hH', hM2.sub (by (repeat (first | exact List.Sublist.slnil | exact List.Sublist.refl _ | refine List.Sublist.cons_cons _ ?_ | refine List.Sublist.cons _ ?_))), by simp [put_app, put_none, *]⟩
      · have dp := decide_eq_false hp
        clear hid hrk hM hM1
        refine goM ?_
        refine l_callG (num_ _ _) ?_
        refine goM ?_
        refine l_stM st4 ?_
        refine goM ?_
        refine l_stM st3 ?_
        refine goM ?_
        exact ⟨40 - (i + 1), by omega, i + 1, a, E', _, _, hi40, rfl, hH', hM2.sub (by (repeat (first | exact List.Sublist.slnil | exact List.Sublist.refl _ | refine List.Sublist.cons_cons _ ?_ | refine List.Sublist.cons _ ?_))), by simp [put_app, put_none, *]⟩
    · by_cases hB : q = 2 ∧ 0 < hh k
      · have dq : decide (q < 2) = false := decide_eq_false (by omega)
        have dh : decide (hh k > 0) = true := decide_eq_true hB.2
        have deq : (q == 2) = true := by rw [hB.1]; rfl
        obtain ⟨E', hdr, hH'⟩ := held_drop hH hk4 hB.2
        have wh : IntKind.i64.wrap (hh k - 1) = hh k - 1 := wrap_i64 (by omega) (by omega)
        clear hq0 hq1 hA hB
        refine goM ?_
        refine l_sliceM byteC [97 + (k : Int)] [.int .u8 (97 + (k : Int))] T84 rfl T5 rfl (Cells.one (sz := 1) rfl rfl) (by decide) fun e1 H5 hM => ?_
        refine l_step (s_toStr eLk (hM.sl .here)) ?_
        have hld := hM.ld (.there (.there (.there .here))) T3 rfl (arrL_get hk4)
        have ho5 := hrow H5 hM.pre
        have hl4 := hM.ld (.there (.there .here)) T3 rfl (arrL_get hk4)
        repeat (first | (refine l_pl ?_; refine l_step (s_bin eLk eLk hadd) ?_) | (refine l_pl ?_; refine l_step (s_bin eLk eLk hsh) ?_) | (refine l_gd ?_; refine l_onG ?_; refine l_step (s_bin eLk eLk hsh) ?_) | (refine l_pl ?_; refine l_goM ?_) | (refine d_pl ?_; refine d_goM ?_) | (refine l_gd ?_; first | refine l_onG ?_ | refine l_offG ?_ | refine l_offU ?_) | (refine d_gd ?_; first | refine d_onG ?_ | refine d_offG ?_ | refine d_offU ?_) | (refine cond_pl ?_; first | refine cond_yes ?_ | refine cond_no ?_) | refine wq_seq ?_ | refine wq_line ?_ | refine wq_draw (by decide +kernel) ?_ | refine wq_block ?_ | refine l_nil ?_ | refine d_nil ?_ | refine wq_skip ?_ | refine wq_ret ?_ | refine wq_exit ?_ | refine th_normal ?_ | refine th_ret ?_ | refine th_exit ?_ | refine bk_normal ?_ | refine bk_ret ?_ | refine bk_exit ?_ | refine bk_other rfl ?_)
        obtain ⟨_, H6, c1, a, rfl, m1⟩ := drop15_ H5 u E (ii k) (hM.sl (.there .here)) (by omega)
        rw [hdr] at c1 m1
        refine l_callG c1 ?_
        replace hM := hM.call1 m1
        clear c1 m1 hld ho5 hdr hl4
        have ld3 := hM.ld (.there (.there (.there (.there .here)))) T3 rfl (arrL_get hk4)
        obtain ⟨H8, st3, hM2⟩ := hM.put (.there (.there (.there (.there .here)))) T3 (off := k) (v := .int .i64 (hh k - 1)) (ds := [.int .i64 (hh k - 1)]) rfl rfl rfl (by rw [arrL_len]; exact hk4) rfl
        replace hM2 : Mem K H8 [.own 3 entC a E', .own 1 byteC e1 [97 + (k : Int)], .own 3 entC u E, .box b4 (arrL ii), .box b3 ((arrL hh).set k (.int .i64 (hh k - 1)))] := hM2
        rw [arrL_set _ hk4] at hM2
        clear hrk hM
        refine goM ?_
        refine l_callG (num_ _ _) ?_
        refine goM ?_
        refine l_stM st3 ?_
        refine goM ?_
        exact ⟨40 - (i + 1), by omega, i + 1, a, E', _, _, hi40, rfl, hH', hM2.sub (by (repeat (first | exact List.Sublist.slnil | exact List.Sublist.refl _ | refine List.Sublist.cons_cons _ ?_ | refine List.Sublist.cons _ ?_))), by simp [put_app, put_none, *]⟩
      · obtain ⟨E', hsw, hH', _⟩ := held_sweep hH
        by_cases h1 : q < 2
        · have dq := decide_eq_true h1
          have dh : decide (hh k < 8) = false := decide_eq_false (by omega)
          have deq : (q == 2) = false := by simp; omega
          clear hq0 hq1 hA hB h1 hrk
          refine goM ?_
          refine l_sliceM byteC [97 + (k : Int)] [.int .u8 (97 + (k : Int))] T84 rfl T5 rfl (Cells.one (sz := 1) rfl rfl) (by decide) fun e1 H5 hM => ?_
          refine l_step (s_toStr eLk (hM.sl .here)) ?_
          have hld := hM.ld (.there (.there (.there .here))) T3 rfl (arrL_get hk4)
          have ho5 := hrow H5 hM.pre
          repeat (first | (refine l_pl ?_; refine l_step (s_bin eLk eLk hadd) ?_) | (refine l_pl ?_; refine l_step (s_bin eLk eLk hsh) ?_) | (refine l_gd ?_; refine l_onG ?_; refine l_step (s_bin eLk eLk hsh) ?_) | (refine l_pl ?_; refine l_goM ?_) | (refine d_pl ?_; refine d_goM ?_) | (refine l_gd ?_; first | refine l_onG ?_ | refine l_offG ?_ | refine l_offU ?_) | (refine d_gd ?_; first | refine d_onG ?_ | refine d_offG ?_ | refine d_offU ?_) | (refine cond_pl ?_; first | refine cond_yes ?_ | refine cond_no ?_) | refine wq_seq ?_ | refine wq_line ?_ | refine wq_draw (by decide +kernel) ?_ | refine wq_block ?_ | refine l_nil ?_ | refine d_nil ?_ | refine wq_skip ?_ | refine wq_ret ?_ | refine wq_exit ?_ | refine th_normal ?_ | refine th_ret ?_ | refine th_exit ?_ | refine bk_normal ?_ | refine bk_ret ?_ | refine bk_exit ?_ | refine bk_other rfl ?_)
          obtain ⟨_, H6, c1, a, rfl, m1⟩ := sweep15_ H5 u E (hM.sl (.there .here)) (by omega)
          rw [hsw] at c1 m1
          refine l_callG c1 ?_
          replace hM := hM.call1 m1
          clear c1 m1 hld ho5 hsw
          refine goM ?_
          refine l_callG (num_ _ _) ?_
          refine goM ?_
          exact ⟨40 - (i + 1), by omega, i + 1, a, E', _, _, hi40, rfl, hH', hM.subG, by simp [put_app, put_none, *]⟩
        · have dq := decide_eq_false h1
          by_cases h2 : q = 2
          · have dh : decide (hh k > 0) = false := decide_eq_false (by omega)
            have deq : (q == 2) = true := by rw [h2]; rfl
            clear hq0 hq1 hA hB h1 h2 hrk
            refine goM ?_
            refine l_sliceM byteC [97 + (k : Int)] [.int .u8 (97 + (k : Int))] T84 rfl T5 rfl (Cells.one (sz := 1) rfl rfl) (by decide) fun e1 H5 hM => ?_
            refine l_step (s_toStr eLk (hM.sl .here)) ?_
            have hld := hM.ld (.there (.there (.there .here))) T3 rfl (arrL_get hk4)
            have ho5 := hrow H5 hM.pre
            repeat (first | (refine l_pl ?_; refine l_step (s_bin eLk eLk hadd) ?_) | (refine l_pl ?_; refine l_step (s_bin eLk eLk hsh) ?_) | (refine l_gd ?_; refine l_onG ?_; refine l_step (s_bin eLk eLk hsh) ?_) | (refine l_pl ?_; refine l_goM ?_) | (refine d_pl ?_; refine d_goM ?_) | (refine l_gd ?_; first | refine l_onG ?_ | refine l_offG ?_ | refine l_offU ?_) | (refine d_gd ?_; first | refine d_onG ?_ | refine d_offG ?_ | refine d_offU ?_) | (refine cond_pl ?_; first | refine cond_yes ?_ | refine cond_no ?_) | refine wq_seq ?_ | refine wq_line ?_ | refine wq_draw (by decide +kernel) ?_ | refine wq_block ?_ | refine l_nil ?_ | refine d_nil ?_ | refine wq_skip ?_ | refine wq_ret ?_ | refine wq_exit ?_ | refine th_normal ?_ | refine th_ret ?_ | refine th_exit ?_ | refine bk_normal ?_ | refine bk_ret ?_ | refine bk_exit ?_ | refine bk_other rfl ?_)
            obtain ⟨_, H6, c1, a, rfl, m1⟩ := sweep15_ H5 u E (hM.sl (.there .here)) (by omega)
            rw [hsw] at c1 m1
            refine l_callG c1 ?_
            replace hM := hM.call1 m1
            clear c1 m1 hld ho5 hsw
            refine goM ?_
            refine l_callG (num_ _ _) ?_
            refine goM ?_
            exact ⟨40 - (i + 1), by omega, i + 1, a, E', _, _, hi40, rfl, hH', hM.subG, by simp [put_app, put_none, *]⟩
          · have deq : (q == 2) = false := by simpa using h2
            clear hq0 hq1 hA hB h1 h2 hrk
            refine goM ?_
            refine l_sliceM byteC [97 + (k : Int)] [.int .u8 (97 + (k : Int))] T84 rfl T5 rfl (Cells.one (sz := 1) rfl rfl) (by decide) fun e1 H5 hM => ?_
            refine l_step (s_toStr eLk (hM.sl .here)) ?_
            have hld := hM.ld (.there (.there (.there .here))) T3 rfl (arrL_get hk4)
            have ho5 := hrow H5 hM.pre
            repeat (first | (refine l_pl ?_; refine l_step (s_bin eLk eLk hadd) ?_) | (refine l_pl ?_; refine l_step (s_bin eLk eLk hsh) ?_) | (refine l_gd ?_; refine l_onG ?_; refine l_step (s_bin eLk eLk hsh) ?_) | (refine l_pl ?_; refine l_goM ?_) | (refine d_pl ?_; refine d_goM ?_) | (refine l_gd ?_; first | refine l_onG ?_ | refine l_offG ?_ | refine l_offU ?_) | (refine d_gd ?_; first | refine d_onG ?_ | refine d_offG ?_ | refine d_offU ?_) | (refine cond_pl ?_; first | refine cond_yes ?_ | refine cond_no ?_) | refine wq_seq ?_ | refine wq_line ?_ | refine wq_draw (by decide +kernel) ?_ | refine wq_block ?_ | refine l_nil ?_ | refine d_nil ?_ | refine wq_skip ?_ | refine wq_ret ?_ | refine wq_exit ?_ | refine th_normal ?_ | refine th_ret ?_ | refine th_exit ?_ | refine bk_normal ?_ | refine bk_ret ?_ | refine bk_exit ?_ | refine bk_other rfl ?_)
            obtain ⟨_, H6, c1, a, rfl, m1⟩ := sweep15_ H5 u E (hM.sl (.there .here)) (by omega)
            rw [hsw] at c1 m1
            refine l_callG c1 ?_
            replace hM := hM.call1 m1
            clear c1 m1 hld ho5 hsw
            refine goM ?_
            refine l_callG (num_ _ _) ?_
            refine goM ?_
            exact ⟨40 - (i + 1), by omega, i + 1, a, E', _, _, hi40, rfl, hH', hM.subG, by simp [put_app, put_none, *]⟩
  · have hstop : (decide ((i : Int) < (n : Int)) = false) ∨ (decide ((i : Int) < (n : Int)) = true ∧ decide ((i : Int) < 40) = false) := by
      by_cases h1 : i < n
      · exact .inr ⟨decide_eq_true (by omega), decide_eq_false (by omega)⟩
      · exact .inl (decide_eq_false (by omega))
    obtain ⟨E', hsw, hH', hz⟩ := held_sweep hH
    have hE4' := held_len hH'
    have hmany := held_many hH' hz
    obtain ⟨_, H6, c1, a, rfl, m1⟩ := sweep15_ h u E (hM.sl .here) (by omega)
    rw [hsw] at c1 m1
    replace hM := hM.call1 m1
    replace hM := hM.sub (L' := [.own 3 entC a E', .box b4 (arrL ii), .box b3 (arrL hh)]) (by (repeat (first | exact List.Sublist.slnil | exact List.Sublist.refl _ | refine List.Sublist.cons_cons _ ?_ | refine List.Sublist.cons _ ?_)))
    clear m1 hsw hin hH hn lx hx
    rcases hstop with d1 | ⟨d1, d2⟩
    all_goals
      refine goM ?_
      refine l_callG c1 ?_
      clear c1
      refine goM ?_
      refine wq_loop (fun c ρ h => ∃ (k : Nat), k ≤ 4 ∧ c = 4 - k ∧ Mem K h [.own 3 entC a E', .box b4 (arrL ii), .box b3 (arrL hh)] ∧ ρ 4 = .ptr b3 0 ∧ ρ 5 = .ptr b4 0 ∧ ρ 16 = a ∧ ρ 17 = .int .i64 0 ∧ ρ 18 = .int .i64 (manyN hh k : Nat) ∧ ρ 19 = .int .i64 (k : Int)) ⟨0, Nat.zero_le _, rfl, hM, by simp [put_app, put_none, *], by simp [put_app, put_none, *], by simp [put_app, put_none, *], by simp [put_app, put_none, *], by simp [put_app, put_none, *]; rfl, by simp [put_app, put_none, *]⟩ ?_
      clear hM g0 g3 g4 g5 g6
      clear ρ
      rintro _ ρ h' ⟨k, hk, rfl, hM, g4, g5, g16, g17, g18, g19⟩
      refine goM ?_
      refine cond_go (fun hb => ?_) (fun hb => ?_)
      · have hk4 : k < 4 := by simp at hb; omega
        clear hb
        have hix3 : idxV T 89 (.ptr b3 0) (k : Int) = some (.ptr b3 (0 + k)) := arr_idx T89 rfl T3 rfl hk4
        have hix4 : idxV T 89 (.ptr b4 0) (k : Int) = some (.ptr b4 (0 + k)) := arr_idx T89 rfl T3 rfl hk4
        rw [Nat.zero_add] at hix3 hix4
        have w97 : IntKind.i64.wrap (97 + (k : Int)) = 97 + (k : Int) := wrap_i64 (by omega) (by omega)
        have w8 : IntKind.u8.wrap (97 + (k : Int)) = 97 + (k : Int) := by rw [wrap_u8]; omega
        have hadd := tk_add k
        have hwk := wrap_succ (n := k) (by omega)
        have ld3 := hM.ld (.there (.there .here)) T3 rfl (arrL_get hk4)
        have ld4 := hM.ld (.there .here) T3 rfl (arrL_get hk4)
        have c1 := get15_ h' a E' (ii k) (hM.sl .here) (by omega)
        have hml := manyN_le hh k
        have hms : manyN hh (k + 1) = manyN hh k + oneN hh k := rfl
        by_cases hp : hh k > 0
        · have dp := decide_eq_true hp
          rw [held_get hH' hk4 hp] at c1
          have hm1 : IntKind.i64.wrap (((manyN hh k : Nat) : Int) + 1) = ((manyN hh (k + 1) : Nat) : Int) := by
            rw [wrap_i64 (by omega) (by omega), hms]
            unfold oneN
            rw [if_pos hp]; omega
          have hss : ((tkS k).toList == (tkS k).toList) = true := by simp
          clear hp hml hms hmany hz
          refine goM ?_
          refine l_callG c1 ?_
          refine goM ?_
          refine l_sliceM byteC [97 + (k : Int)] [.int .u8 (97 + (k : Int))] T84 rfl T5 rfl (Cells.one (sz := 1) rfl rfl) (by decide) fun e1 H5 hM => ?_
          refine l_gd ?_
          refine l_onG ?_
          refine l_step (s_toStr eLk (hM.sl .here)) ?_
          repeat (first | (refine l_pl ?_; refine l_step (s_bin eLk eLk hadd) ?_) | (refine l_gd ?_; refine l_onG ?_; refine l_step (s_bin eLk eLk hadd) ?_) | (refine l_pl ?_; refine l_goM ?_) | (refine d_pl ?_; refine d_goM ?_) | (refine l_gd ?_; first | refine l_onG ?_ | refine l_offG ?_ | refine l_offU ?_) | (refine d_gd ?_; first | refine d_onG ?_ | refine d_offG ?_ | refine d_offU ?_) | (refine cond_pl ?_; first | refine cond_yes ?_ | refine cond_no ?_) | refine wq_seq ?_ | refine wq_line ?_ | refine wq_draw (by decide +kernel) ?_ | refine wq_block ?_ | refine l_nil ?_ | refine d_nil ?_ | refine wq_skip ?_ | refine wq_ret ?_ | refine wq_exit ?_ | refine th_normal ?_ | refine th_ret ?_ | refine th_exit ?_ | refine bk_normal ?_ | refine bk_ret ?_ | refine bk_exit ?_ | refine bk_other rfl ?_)
          exact ⟨4 - (k + 1), by omega, k + 1, hk4, rfl, hM.subG, by simp [put_app, put_none, *]⟩
        · have dp := decide_eq_false hp
          have hm1 : manyN hh k = manyN hh (k + 1) := by
            rw [hms]
            unfold oneN
            rw [if_neg hp]; rfl
          rw [hm1] at g18
          generalize getS E' (ii k) = g at *
          obtain ⟨g1, g2⟩ := g
          clear hp hml hms hm1
          refine goM ?_
          refine l_callG c1 ?_
          refine goM ?_
          exact ⟨4 - (k + 1), by omega, k + 1, hk4, rfl, hM, by simp [put_app, put_none, *]⟩
      · have hk4 : k = 4 := by simp at hb; omega
        subst hk4
        clear hb g19
        have hla := (hM.sl .here).len T66 rfl
        rw [hmany] at hla
        have c2 := storeMay_ h' a E' (hM.sl .here) (by omega)
        rw [of_store hH'.st] at c2
        clear hmany hz hH' hE4' hE4
        refine goM ?_
        refine l_callG (num_ _ _) ?_
        refine goM ?_
        refine l_callG c2 ?_
        refine goM ?_
        exact end_1 (by first | exact .inl rfl | exact .inr rfl) ⟨rfl, hM.pre⟩
end Go.Proofs.Ytekifjeckbndiaa.VM
