/- Joined texts: StoreL, StoreM. -/
import Derived.Test.YtekifjeckbndiaaJS8
/- Layer 15, the plain law: what Put, Drop, Sweep leave. -/
namespace Go.Proofs.Ytekifjeckbndiaa.VM
open Go
set_option linter.unusedVariables false
set_option linter.unusedSimpArgs false
attribute [local irreducible] wq wqL wqD wqE wqO Th Bk EndR
set_option maxHeartbeats 8000000

def keyE (e : Ent) : Int × ByteArray := (e.id, e.tx)
theorem store_key {es es' : List Ent} (h : Store es) (hk : es'.map keyE = es.map keyE) (ho : ∀ e ∈ es', entOk e = true) : Store es' := by
  have hl : es'.length = es.length := by have := congrArg List.length hk; simpa using this
  have at_ : ∀ (i : Nat) x, es'[i]? = some x → ∃ y, es[i]? = some y ∧ y.id = x.id ∧ y.tx = x.tx := fun i x hx => by
    have h1 : (es'.map keyE)[i]? = some (keyE x) := by rw [List.getElem?_map, hx]; rfl
    rw [hk, List.getElem?_map] at h1
    cases hy : es[i]? with
    | none => rw [hy] at h1; cases h1
    | some y =>
      rw [hy] at h1
      have := Option.some.inj h1
      unfold keyE at this
      exact ⟨y, rfl, by rw [(Prod.mk.inj this).1], by rw [(Prod.mk.inj this).2]⟩
  refine ⟨by rw [hl]; exact h.len, ho, fun i j x y hij hx hy => ?_, fun i j x y hx hy he => ?_⟩
  · obtain ⟨x', a1, a2, _⟩ := at_ i x hx
    obtain ⟨y', b1, b2, _⟩ := at_ j y hy
    have := h.up i j x' y' hij a1 b1
    omega
  · obtain ⟨x', a1, _, a3⟩ := at_ i x hx
    obtain ⟨y', b1, _, b3⟩ := at_ j y hy
    exact h.one i j x' y' a1 b1 (by rw [a3, b3, he])
theorem bump_key (es : List Ent) (k : Nat) (d : Int) : (bump es k d).map keyE = es.map keyE := by
  unfold bump
  split
  · rfl
  · rename_i e he
    rw [List.map_set]
    apply List.ext_getElem?
    intro i
    by_cases hi : k = i
    · subst hi
      rw [List.getElem?_set_self (by simpa using (List.getElem?_eq_some_iff.1 he).1), List.getElem?_map, he]; rfl
    · rw [List.getElem?_set_ne hi]
theorem bump_store {es : List Ent} (h : Store es) {k : Nat} {e : Ent} (he : es[k]? = some e) {d : Int} (hd : 0 ≤ e.n + d ∧ e.n + d ≤ 8) : Store (bump es k d) := by
  refine store_key h (bump_key es k d) fun x hx => ?_
  rw [bump_at d he] at hx
  rcases List.mem_or_eq_of_mem_set hx with hx | rfl
  · exact h.ok x hx
  · have := h.ok e (List.mem_of_getElem? he)
    unfold entOk at this ⊢
    simp only [Bool.and_eq_true, within_iff] at this ⊢
    exact ⟨this.1, hd⟩
theorem bump_len (es : List Ent) (k : Nat) (d : Int) : (bump es k d).length = es.length := by
  have := congrArg List.length (bump_key es k d); simpa using this
theorem bump_back {es : List Ent} {k : Nat} {e : Ent} (he : es[k]? = some e) : bump (bump es k 1) k (-1) = es := by
  have hlt := (List.getElem?_eq_some_iff.1 he).1
  rw [bump_at (-1) (e := ⟨e.id, e.tx, e.n + 1⟩) (by rw [bump_at 1 he, List.getElem?_set_self hlt]), bump_at 1 he, List.set_set]
  apply List.ext_getElem?
  intro i
  by_cases hi : k = i
  · subst hi
    rw [List.getElem?_set_self hlt, he]
    congr 1
    obtain ⟨a, b, c⟩ := e
    simp only
    congr 1
    omega
  · rw [List.getElem?_set_ne hi]

/-- numbers in a store -/
theorem findN_at {es : List Ent} (h : Store es) {k : Nat} {e : Ent} (he : es[k]? = some e) : findN es e.id = k := by
  have hlt := (List.getElem?_eq_some_iff.1 he).1
  unfold findN
  rw [List.findIdx_eq hlt]
  have hel : es[k] = e := by rw [List.getElem?_eq_getElem hlt] at he; exact Option.some.inj he
  refine ⟨by rw [hel]; exact decide_eq_true rfl, fun j hj => ?_⟩
  have := h.up j k (es[j]'(by omega)) e hj (by simp) he
  simp; omega
theorem get_some {es : List Ent} (h : Store es) {k : Nat} {e : Ent} (he : es[k]? = some e) : getS es e.id = (e.tx, true) := by
  unfold getS
  rw [of_store h, if_neg (by decide), findN_at h he, he]
theorem get_none {es : List Ent} (h : Store es) {id : Int} (hn : ∀ e ∈ es, e.id ≠ id) : getS es id = (⟨#[]⟩, false) := by
  unfold getS
  rw [of_store h, if_neg (by decide)]
  cases hf : es[findN es id]? with
  | none => rfl
  | some e =>
    have hlt := (List.getElem?_eq_some_iff.1 hf).1
    have := List.findIdx_getElem (xs := es) (p := fun e : Ent => decide (e.id = id)) (w := hlt)
    have hel : es[findN es id] = e := by rw [List.getElem?_eq_getElem hlt] at hf; exact Option.some.inj hf
    exact absurd (by rw [← hel]; exact of_decide_eq_true this) (hn e (List.mem_of_getElem? hf))
/-- two stores tell the same of a number -/
theorem get_same {es es' : List Ent} (h : Store es) (h' : Store es') {id : Int} (h1 : ∀ e ∈ es, e.id = id → ∃ x ∈ es', x.id = id ∧ x.tx = e.tx) (h2 : ∀ x ∈ es', x.id = id → ∃ e ∈ es, e.id = id) : getS es' id = getS es id := by
  by_cases hx : ∃ e ∈ es, e.id = id
  · obtain ⟨e, he, hid⟩ := hx
    obtain ⟨x, hxm, hxi, hxt⟩ := h1 e he hid
    obtain ⟨i, hi⟩ := List.mem_iff_getElem?.1 he
    obtain ⟨j, hj⟩ := List.mem_iff_getElem?.1 hxm
    have a := get_some h hi
    have b := get_some h' hj
    rw [hid] at a
    rw [hxi] at b
    rw [a, b, hxt]
  · rw [get_none h fun e he hid => hx ⟨e, he, hid⟩, get_none h' fun x hxm hid => hx (h2 x hxm hid)]
theorem key_mem {es es' : List Ent} (hk : es'.map keyE = es.map keyE) {e : Ent} (he : e ∈ es) : ∃ x ∈ es', x.id = e.id ∧ x.tx = e.tx := by
  have : keyE e ∈ es'.map keyE := by rw [hk]; exact List.mem_map_of_mem he
  obtain ⟨x, hx, hxe⟩ := List.mem_map.1 this
  unfold keyE at hxe
  exact ⟨x, hx, (Prod.mk.inj hxe).1, (Prod.mk.inj hxe).2⟩
theorem get_key {es es' : List Ent} (h : Store es) (h' : Store es') (hk : es'.map keyE = es.map keyE) (id : Int) : getS es' id = getS es id :=
  get_same h h' (fun e he hid => by
    obtain ⟨x, a, b, c⟩ := key_mem hk he
    exact ⟨x, a, by rw [b, hid], c⟩) fun x hx hid => by
    obtain ⟨e, a, b, _⟩ := key_mem hk.symm hx
    exact ⟨e, a, by rw [b, hid]⟩

theorem freeFrom_spec : ∀ (es : List Ent) (k : Nat), ∃ d, freeFrom es k = k + d ∧ d ≤ es.length ∧ (∀ (j : Nat) e, j < d → es[j]? = some e → e.id = ((k + j : Nat) : Int)) ∧ (∀ e, es[d]? = some e → e.id ≠ ((k + d : Nat) : Int))
  | [], k => ⟨0, rfl, by simp, by intro j e h; omega, by simp⟩
  | e :: es, k => by
    by_cases he : e.id = (k : Int)
    · obtain ⟨d, h1, h2, h3, h4⟩ := freeFrom_spec es (k + 1)
      refine ⟨d + 1, ?_, by simpa using h2, fun j x hj hx => ?_, fun x hx => ?_⟩
      · simp only [freeFrom, he, if_true]
        rw [h1]; omega
      · cases j with
        | zero => simp at hx; subst hx; simpa using he
        | succ j =>
          have := h3 j x (by omega) (by simpa using hx)
          rw [this]; congr 1; omega
      · have := h4 x (by simpa using hx)
        rw [show k + (d + 1) = k + 1 + d by omega]
        exact this
    · refine ⟨0, ?_, Nat.zero_le _, by intro j x h; omega, fun x hx => ?_⟩
      · simp only [freeFrom, he, if_false]; rfl
      · simp at hx; subst hx; simpa using he
theorem freeN_spec (es : List Ent) : freeN es ≤ es.length ∧ (∀ (j : Nat) e, j < freeN es → es[j]? = some e → e.id = (j : Int)) ∧ (∀ e, es[freeN es]? = some e → e.id ≠ (freeN es : Int)) := by
  obtain ⟨d, h1, h2, h3, h4⟩ := freeFrom_spec es 0
  have : freeN es = d := by unfold freeN; rw [h1]; omega
  rw [this]
  refine ⟨h2, fun j e hj he => by have := h3 j e hj he; rw [this]; congr 1; omega, fun e he => by have := h4 e he; rwa [Nat.zero_add] at this⟩
/-- behind the place that is free all numbers are greater -/
theorem free_above {es : List Ent} (h : Store es) {j : Nat} {e : Ent} (hj : freeN es ≤ j) (he : es[j]? = some e) : (freeN es : Int) < e.id := by
  obtain ⟨h1, h2, h3⟩ := freeN_spec es
  have base : ∀ x, es[freeN es]? = some x → (freeN es : Int) < x.id := fun x hx => by
    have hne := h3 x hx
    have hok := h.ok x (List.mem_of_getElem? hx)
    unfold entOk at hok
    simp only [Bool.and_eq_true, within_iff] at hok
    have hge : (freeN es : Int) ≤ x.id := by
      cases hz : freeN es with
      | zero => exact hok.1.1.1
      | succ m =>
        rw [hz] at hx h2
        have hlt := (List.getElem?_eq_some_iff.1 hx).1
        have hp : es[m]? = some (es[m]'(by omega)) := by simp
        have a := h2 m _ (Nat.lt_succ_self m) hp
        have b := h.up m (m + 1) _ x (Nat.lt_succ_self m) hp hx
        omega
    omega
  rcases Nat.lt_or_eq_of_le hj with h4 | h4
  · have hlt := (List.getElem?_eq_some_iff.1 he).1
    have hp : es[freeN es]? = some (es[freeN es]'(by omega)) := by simp
    have a := base _ hp
    have b := h.up _ _ _ e h4 hp he
    omega
  · subst h4; exact base e he
def insE (es : List Ent) (s : ByteArray) (n : Int) : List Ent := es.take (freeN es) ++ ⟨(freeN es : Int), s, n⟩ :: es.drop (freeN es)
theorem ins_get {es : List Ent} (s : ByteArray) (n : Int) {i : Nat} {x : Ent} (hx : (insE es s n)[i]? = some x) : (i < freeN es ∧ es[i]? = some x) ∨ (i = freeN es ∧ x = ⟨(freeN es : Int), s, n⟩) ∨ (freeN es < i ∧ es[i - 1]? = some x) := by
  have h1 := (freeN_spec es).1
  have hl : (es.take (freeN es)).length = freeN es := by rw [List.length_take]; omega
  unfold insE at hx
  by_cases hi : i < freeN es
  · rw [List.getElem?_append_left (by omega), List.getElem?_take, if_pos hi] at hx
    exact .inl ⟨hi, hx⟩
  · rw [List.getElem?_append_right (by omega), hl] at hx
    by_cases hi2 : i = freeN es
    · subst hi2
      rw [Nat.sub_self] at hx
      simp at hx
      exact .inr (.inl ⟨rfl, hx.symm⟩)
    · obtain ⟨d, hd⟩ : ∃ d, i - freeN es = d + 1 := ⟨i - freeN es - 1, by omega⟩
      rw [hd, List.getElem?_cons_succ, List.getElem?_drop] at hx
      refine .inr (.inr ⟨by omega, ?_⟩)
      rw [show i - 1 = freeN es + d by omega]
      exact hx
theorem ins_store {es : List Ent} (h : Store es) {s : ByteArray} {n : Int} (ht : textOk s = true) (hn : 0 ≤ n ∧ n ≤ 8) (hno : ∀ e ∈ es, e.tx ≠ s) (hl : es.length < 64) : Store (insE es s n) := by
  obtain ⟨h1, h2, h3⟩ := freeN_spec es
  refine ⟨?_, fun e he => ?_, fun i j x y hij hx hy => ?_, fun i j x y hx hy he => ?_⟩
  · unfold insE
    simp only [List.length_append, List.length_cons, List.length_take, List.length_drop]; omega
  · obtain ⟨i, hi⟩ := List.mem_iff_getElem?.1 he
    rcases ins_get s n hi with ⟨_, g⟩ | ⟨_, rfl⟩ | ⟨_, g⟩
    · exact h.ok e (List.mem_of_getElem? g)
    · show (within (freeN es : Int) 0 1024 && textOk s && within n 0 8) = true
      rw [ht, within_iff.2 ⟨by omega, by omega⟩, within_iff.2 hn]; rfl
    · exact h.ok e (List.mem_of_getElem? g)
  · rcases ins_get s n hx with ⟨a1, a2⟩ | ⟨a1, rfl⟩ | ⟨a1, a2⟩ <;> rcases ins_get s n hy with ⟨b1, b2⟩ | ⟨b1, rfl⟩ | ⟨b1, b2⟩
    · exact h.up i j x y hij a2 b2
    · have := h2 i x a1 a2
      simp only; omega
    · exact h.up i (j - 1) x y (by omega) a2 b2
    · omega
    · omega
    · have := free_above h (j := j - 1) (by omega) b2
      simp only; omega
    · omega
    · omega
    · exact h.up (i - 1) (j - 1) x y (by omega) a2 b2
  · rcases ins_get s n hx with ⟨a1, a2⟩ | ⟨a1, rfl⟩ | ⟨a1, a2⟩ <;> rcases ins_get s n hy with ⟨b1, b2⟩ | ⟨b1, rfl⟩ | ⟨b1, b2⟩
    · exact h.one i j x y a2 b2 he
    · exact absurd he (hno x (List.mem_of_getElem? a2))
    · have := h.one i (j - 1) x y a2 b2 he; omega
    · exact absurd he.symm (hno y (List.mem_of_getElem? b2))
    · omega
    · exact absurd he.symm (hno y (List.mem_of_getElem? b2))
    · have := h.one (i - 1) j x y a2 b2 he; omega
    · exact absurd he (hno x (List.mem_of_getElem? a2))
    · have := h.one (i - 1) (j - 1) x y a2 b2 he; omega
theorem ins_mem {es : List Ent} {s : ByteArray} {n : Int} {e : Ent} : e ∈ insE es s n ↔ e ∈ es ∨ e = ⟨(freeN es : Int), s, n⟩ := by
  unfold insE
  rw [List.mem_append, List.mem_cons]
  constructor
  · rintro (h | rfl | h)
    · exact .inl (List.mem_of_mem_take h)
    · exact .inr rfl
    · exact .inl (List.mem_of_mem_drop h)
  · rintro (h | rfl)
    · rw [← List.take_append_drop (freeN es) es, List.mem_append] at h
      rcases h with h | h
      · exact .inl h
      · exact .inr (.inr h)
    · exact .inr (.inl rfl)
theorem ins_at (es : List Ent) (s : ByteArray) (n : Int) : (insE es s n)[freeN es]? = some ⟨(freeN es : Int), s, n⟩ := by
  have h1 := (freeN_spec es).1
  unfold insE
  rw [List.getElem?_append_right (by rw [List.length_take]; omega), List.length_take, Nat.min_eq_left h1, Nat.sub_self]; rfl

/-- the three ends of Put -/
theorem put_cases (es : List Ent) (s : ByteArray) :
    (∃ e, e ≠ 0 ∧ putS es s = ([], 0, e)) ∨
    (∃ k x, Store es ∧ es[k]? = some x ∧ x.tx = s ∧ x.n ≠ 8 ∧ putS es s = (bump es k 1, x.id, 0)) ∨
    (Store es ∧ textOk s = true ∧ (∀ e ∈ es, e.tx ≠ s) ∧ es.length < 64 ∧ putS es s = (insE es s 1, (freeN es : Int), 0)) := by
  by_cases hm : (storeMay es && textOk s) = true
  · rw [Bool.and_eq_true] at hm
    have h := store_of hm.1
    have hdef : putS es s = (match es[holdsN es s]? with
      | some e => if e.n = 8 then ([], 0, 1501) else (bump es (holdsN es s) 1, e.id, 0)
      | none => if es.length = 64 then ([], 0, 1501) else (insE es s 1, (freeN es : Int), 0)) := by
      unfold putS
      rw [hm.1, hm.2, if_neg (by decide)]
      cases es[holdsN es s]? <;> rfl
    cases hf : es[holdsN es s]? with
    | some e =>
      rw [hf] at hdef
      simp only at hdef
      by_cases h8 : e.n = 8
      · rw [if_pos h8] at hdef
        exact .inl ⟨1501, by decide, hdef⟩
      · rw [if_neg h8] at hdef
        exact .inr (.inl ⟨_, e, h, hf, holdsN_at hf, h8, hdef⟩)
    | none =>
      rw [hf] at hdef
      simp only at hdef
      by_cases h64 : es.length = 64
      · rw [if_pos h64] at hdef
        exact .inl ⟨1501, by decide, hdef⟩
      · rw [if_neg h64] at hdef
        refine .inr (.inr ⟨h, hm.2, fun e he hs => ?_, by have := h.len; omega, hdef⟩)
        obtain ⟨i, hi⟩ := List.mem_iff_getElem?.1 he
        have hge := List.getElem?_eq_none_iff.1 hf
        have hlt := (List.getElem?_eq_some_iff.1 hi).1
        have := holdsN_lt (s := s) (k := i) (by omega) hi
        rw [hs, txEq_self] at this; cases this
  · refine .inl ⟨1500, by decide, ?_⟩
    unfold putS
    rw [if_pos (by simpa using hm)]
theorem drop_cases (es : List Ent) (id : Int) :
    (∃ e, e ≠ 0 ∧ dropS es id = ([], e)) ∨
    (∃ k x, Store es ∧ es[k]? = some x ∧ x.id = id ∧ x.n ≠ 0 ∧ dropS es id = (bump es k (-1), 0)) := by
  by_cases hm : storeMay es = true
  · have h := store_of hm
    have hdef : dropS es id = (match es[findN es id]? with
      | none => ([], 1502)
      | some e => if e.n = 0 then ([], 1502) else (bump es (findN es id) (-1), 0)) := by
      unfold dropS
      rw [hm, if_neg (by decide)]
      cases es[findN es id]? <;> rfl
    cases hf : es[findN es id]? with
    | none => rw [hf] at hdef; exact .inl ⟨1502, by decide, hdef⟩
    | some e =>
      rw [hf] at hdef
      simp only at hdef
      by_cases h0 : e.n = 0
      · rw [if_pos h0] at hdef
        exact .inl ⟨1502, by decide, hdef⟩
      · rw [if_neg h0] at hdef
        have hlt := (List.getElem?_eq_some_iff.1 hf).1
        have := List.findIdx_getElem (xs := es) (p := fun e : Ent => decide (e.id = id)) (w := hlt)
        have hel : es[findN es id] = e := by rw [List.getElem?_eq_getElem hlt] at hf; exact Option.some.inj hf
        exact .inr ⟨_, e, h, hf, by rw [← hel]; exact of_decide_eq_true this, h0, hdef⟩
  · refine .inl ⟨1500, by decide, ?_⟩
    unfold dropS
    rw [if_pos (by simpa using hm)]
theorem drop_at {es : List Ent} (h : Store es) {k : Nat} {x : Ent} (hx : es[k]? = some x) (hn : x.n ≠ 0) : dropS es x.id = (bump es k (-1), 0) := by
  unfold dropS
  rw [of_store h, if_neg (by decide), findN_at h hx, hx]
  simp only
  rw [if_neg hn]
theorem sweep_ok {es : List Ent} (h : Store es) : sweepS es = (es.filter fun e => decide (e.n ≠ 0), 0) := by
  unfold sweepS; rw [of_store h, if_neg (by decide)]

/-- a text put, let go again, and all swept -/
theorem again (es : List Ent) (s : ByteArray) (h : (putS es s).2.2 = 0) : (dropS (putS es s).1 (putS es s).2.1).2 = 0 ∧ (sweepS (dropS (putS es s).1 (putS es s).2.1).1).2 = 0 ∧ (sweepS es).2 = 0 ∧ (sweepS (dropS (putS es s).1 (putS es s).2.1).1).1 = (sweepS es).1 := by
  rcases put_cases es s with ⟨e, he, hp⟩ | ⟨k, x, hs, hx, hxs, h8, hp⟩ | ⟨hs, ht, hno, hl, hp⟩
  · rw [hp] at h; exact absurd h he
  · have hn := ent_n hs hx
    have hlt := (List.getElem?_eq_some_iff.1 hx).1
    have hb := bump_store hs hx (d := 1) (by omega)
    have hd := drop_at hb (k := k) (x := ⟨x.id, x.tx, x.n + 1⟩) (by rw [bump_at 1 hx, List.getElem?_set_self hlt]) (by simp only; omega)
    rw [hp]
    simp only at hd ⊢
    rw [hd]
    simp only
    rw [bump_back hx, sweep_ok hs]
    exact ⟨by trivial, by trivial, by trivial, by trivial⟩
  · have hi := ins_store hs ht (n := 1) (by decide) hno hl
    have hat := ins_at es s 1
    have hd := drop_at hi hat (by simp)
    have hb := bump_store hi hat (d := -1) (by simp only; omega)
    rw [hp]
    simp only at hd ⊢
    rw [hd]
    simp only
    have hbi : bump (insE es s 1) (freeN es) (-1) = insE es s 0 := by
      rw [bump_at (-1) hat]
      have h1 := (freeN_spec es).1
      unfold insE
      rw [List.set_append_right _ _ (by rw [List.length_take]; omega), List.length_take, Nat.min_eq_left h1, Nat.sub_self]
      rfl
    rw [sweep_ok hb, sweep_ok hs, hbi]
    refine ⟨by trivial, by trivial, by trivial, ?_⟩
    unfold insE
    rw [List.filter_append, List.filter_cons_of_neg (by simp)]
    rw [← List.filter_append, List.take_append_drop]

/-- what Put leaves -/
theorem put_leaves (es : List Ent) (s : ByteArray) (h : (putS es s).2.2 = 0) : storeMay (putS es s).1 = true ∧ getS (putS es s).1 (putS es s).2.1 = (s, true) ∧ ∀ o, o ≠ (putS es s).2.1 → getS (putS es s).1 o = getS es o := by
  rcases put_cases es s with ⟨e, he, hp⟩ | ⟨k, x, hs, hx, hxs, h8, hp⟩ | ⟨hs, ht, hno, hl, hp⟩
  · rw [hp] at h; exact absurd h he
  · have hn := ent_n hs hx
    have hlt := (List.getElem?_eq_some_iff.1 hx).1
    have hb := bump_store hs hx (d := 1) (by omega)
    have hg := get_some hb (k := k) (e := ⟨x.id, x.tx, x.n + 1⟩) (by rw [bump_at 1 hx, List.getElem?_set_self hlt])
    rw [hp]
    simp only at hg ⊢
    exact ⟨of_store hb, by rw [hg, hxs], fun o _ => get_key hs hb (bump_key es k 1) o⟩
  · have hi := ins_store hs ht (n := 1) (by decide) hno hl
    have hg := get_some hi (ins_at es s 1)
    rw [hp]
    simp only at hg ⊢
    refine ⟨of_store hi, hg, fun o ho => get_same hs hi (fun e he hid => ⟨e, ins_mem.2 (.inl he), hid, rfl⟩) fun x hx hid => ?_⟩
    rcases ins_mem.1 hx with h1 | rfl
    · exact ⟨x, h1, hid⟩
    · exact absurd hid.symm ho
theorem drop_leaves (es : List Ent) (id : Int) (h : (dropS es id).2 = 0) : storeMay (dropS es id).1 = true ∧ (dropS es id).1.length = es.length ∧ ∀ o, getS (dropS es id).1 o = getS es o := by
  rcases drop_cases es id with ⟨e, he, hp⟩ | ⟨k, x, hs, hx, hid, h0, hp⟩
  · rw [hp] at h; exact absurd h he
  · have hn := ent_n hs hx
    have hb := bump_store hs hx (d := -1) (by omega)
    rw [hp]
    exact ⟨of_store hb, bump_len _ _ _, fun o => get_key hs hb (bump_key es k (-1)) o⟩
theorem put_fails (es : List Ent) (s : ByteArray) (h : (putS es s).2.2 ≠ 0) : (putS es s).1 = [] ∧ (putS es s).2.1 = 0 := by
  rcases put_cases es s with ⟨e, he, hp⟩ | ⟨k, x, hs, hx, hxs, h8, hp⟩ | ⟨hs, ht, hno, hl, hp⟩
  · rw [hp]; exact ⟨rfl, rfl⟩
  · rw [hp] at h; exact absurd rfl h
  · rw [hp] at h; exact absurd rfl h
end Go.Proofs.Ytekifjeckbndiaa.VM

/- Chapter 15: the statements StoreAgain, StoreOther. -/
namespace Go.Proofs.Ytekifjeckbndiaa.VM
open Go
set_option linter.unusedVariables false
set_option linter.unusedSimpArgs false
attribute [local irreducible] wq wqL wqD wqE wqO Th Bk EndR
set_option maxHeartbeats 8000000

theorem law_storeAgain {D : Type} (K : Heap) (vs : List V) (ds : List (DataW D)) (ro : Ro K) (h : RdAll T K [66, 9] vs ds) : ∃ K', Call Try.prog 12 vs K (.bool true) K' := by
  obtain ⟨v1, vs, d1, ds, rfl, rfl, hv1, h⟩ := rdAll_cons h
  obtain ⟨v2, vs, d2, ds, rfl, rfl, hv2, h⟩ := rdAll_cons h
  obtain ⟨rfl, rfl⟩ := rdAll_nil h
  obtain ⟨es, hx, lx⟩ := rd_ents hv1
  obtain ⟨s, rfl, ls⟩ := rd_str hv2
  replace lx : es.length * 32 ≤ 140737488351232 := lx
  clear hv1 hv2 h
  have l1 := putS_len es s
  refine ⟨K, ?_⟩
  refine call_pure fit mixed Try.func12 rfl rfl rfl (by kernel_rfl) rfl fun hM => ?_
  refine goM ?_
  refine l_callG (awake15_ _) ?_
  refine goM ?_
  obtain ⟨_, H2, c1, a, rfl, m1⟩ := put15_ K v1 es s hx (by omega)
  have hlen := (m1.sl .here).len T66 rfl
  by_cases h0 : (putS es s).2.2 = 0
  · obtain ⟨e1, e2, e3, e4⟩ := again es s h0
    generalize putS es s = p at *
    obtain ⟨p1, p2, p3⟩ := p
    simp only at h0 c1 m1 e1 e2 e4 hlen l1
    subst h0
    refine l_callG c1 ?_
    replace hM := hM.call1 m1
    clear c1 m1
    refine goM ?_
    refine l_callG (num_ _ _) ?_
    refine goM ?_
    obtain ⟨_, H3, c1, b, rfl, m1⟩ := drop15_ H2 a p1 p2 (hM.sl .here) (by omega)
    have l2 := dropS_len p1 p2
    rw [e1] at c1
    refine l_callG c1 ?_
    replace hM := hM.call1 m1
    clear c1 m1
    refine goM ?_
    generalize dropS p1 p2 = q at *
    obtain ⟨_, H4, c1, c, rfl, m1⟩ := sweep15_ H3 b q.1 (hM.sl .here) (by omega)
    have l3 := sweepS_len q.1
    rw [e2] at c1
    rw [e4] at m1 l3
    refine l_callG c1 ?_
    replace hM := hM.call1 m1
    clear c1 m1
    refine goM ?_
    obtain ⟨_, H5, c1, d, rfl, m1⟩ := sweep15_ H4 v1 es (hx.mono hM.pre) (by omega)
    rw [e3] at c1
    refine l_callG c1 ?_
    replace hM := hM.call1 m1
    clear c1 m1
    have c2 := sameEnts_ H5 c d (sweepS es).1 (sweepS es).1 (hM.sl (.there .here)) (hM.sl .here) (by omega)
    rw [entsEq_self] at c2
    clear e1 e2 e3 e4 l1 l2 l3 hlen
    refine goM ?_
    refine l_callG (num_ _ _) ?_
    refine goM ?_
    refine l_callG (num_ _ _) ?_
    refine goM ?_
    refine l_callG (num_ _ _) ?_
    refine goM ?_
    refine l_callG c2 ?_
    refine goM ?_
    exact end_1 (by first | exact .inl rfl | exact .inr rfl) ⟨rfl, hM.pre⟩
  · obtain ⟨e1, e2⟩ := put_fails es s h0
    rw [e1] at hlen m1
    rw [e2] at c1
    have dn : ((putS es s).2.2 != 0) = true := by simpa using h0
    obtain ⟨z, hz⟩ : ∃ z, (putS es s).2.2 = z := ⟨_, rfl⟩
    rw [hz] at dn c1
    clear h0 e1 e2 l1 hz
    refine l_callG c1 ?_
    replace hM := hM.call1 m1
    clear c1 m1
    refine goM ?_
    refine l_callG (num_ _ _) ?_
    have hz0 : (((([] : List Ent).length : Nat) : Int) == 0) = true := by simp
    refine goM ?_
    exact end_1 (by first | exact .inl rfl | exact .inr rfl) ⟨rfl, hM.pre⟩

theorem wq_meetT {P : Program} {T : Tab} {c : Code} {n : Rho → Heap → Prop} {Q : Exit → Rho → Heap → Prop} {ρ : Rho} {h : Heap} (I : Rho → Heap → Prop) (h1 : wq P T c (Th I fun _ _ _ => False) ρ h) (h2 : ∀ ρ h, I ρ h → n ρ h) : wq P T c (Th n Q) ρ h :=
  wq_mono c (fun x ρ h hx => by
    cases x with
    | normal => simp only [Th] at hx; exact th_normal (h2 ρ h hx)
    | _ => simp only [Th] at hx) h1
theorem bool_ne (b : Bool) : vbin T .neq 4 (.bool b) (.bool b) = some (.bool false) := by
  simp only [vbin, T4]
  cases b <;> rfl
theorem law_storeOther {D : Type} (K : Heap) (vs : List V) (ds : List (DataW D)) (ro : Ro K) (h : RdAll T K [66, 9, 3, 3] vs ds) : ∃ K', Call Try.prog 11 vs K (.bool true) K' := by
  obtain ⟨v1, vs, d1, ds, rfl, rfl, hv1, h⟩ := rdAll_cons h
  obtain ⟨v2, vs, d2, ds, rfl, rfl, hv2, h⟩ := rdAll_cons h
  obtain ⟨v3, vs, d3, ds, rfl, rfl, hv3, h⟩ := rdAll_cons h
  obtain ⟨v4, vs, d4, ds, rfl, rfl, hv4, h⟩ := rdAll_cons h
  obtain ⟨rfl, rfl⟩ := rdAll_nil h
  obtain ⟨es, hx, lx⟩ := rd_ents hv1
  obtain ⟨s, rfl, ls⟩ := rd_str hv2
  obtain ⟨id, rfl, _⟩ := hv3.int T3 rfl
  obtain ⟨ot, rfl, _⟩ := hv4.int T3 rfl
  replace lx : es.length * 32 ≤ 140737488351232 := lx
  clear hv1 hv2 hv3 hv4 h
  have l1 := putS_len es s
  have l2 := dropS_len es id
  have hlx := hx.len T66 rfl
  refine ⟨K, ?_⟩
  refine call_pure fit mixed Try.func11 rfl rfl rfl (by kernel_rfl) rfl fun hM => ?_
  refine goM ?_
  refine l_callG (awake15_ _) ?_
  refine goM ?_
  obtain ⟨_, H2, c1, a, rfl, m1⟩ := put15_ K v1 es s hx (by omega)
  refine l_callG c1 ?_
  replace hM := hM.call1 m1
  clear c1 m1
  refine goM ?_
  obtain ⟨_, H3, c1, b, rfl, m1⟩ := drop15_ H2 v1 es id (hx.mono hM.pre) (by omega)
  refine l_callG c1 ?_
  replace hM := hM.call1 m1
  clear c1 m1
  refine goM ?_
  have c1 := get15_ H3 v1 es ot (hx.mono hM.pre) (by omega)
  refine l_callG c1 ?_
  clear c1
  have hp : (putS es s).2.2 = 0 → storeMay (putS es s).1 = true ∧ getS (putS es s).1 (putS es s).2.1 = (s, true) ∧ (ot ≠ (putS es s).2.1 → getS (putS es s).1 ot = getS es ot) := fun h => ⟨(put_leaves es s h).1, (put_leaves es s h).2.1, (put_leaves es s h).2.2 ot⟩
  have hd : (dropS es id).2 = 0 → storeMay (dropS es id).1 = true ∧ (dropS es id).1.length = es.length ∧ getS (dropS es id).1 ot = getS es ot := fun h => ⟨(drop_leaves es id h).1, (drop_leaves es id h).2.1, (drop_leaves es id h).2.2 ot⟩
  generalize putS es s = p at *
  generalize dropS es id = q at *
  generalize getS es ot = g at *
  obtain ⟨p1, p2, p3⟩ := p
  obtain ⟨q1, q2⟩ := q
  obtain ⟨g1, g2⟩ := g
  simp only at hp hd hM l1 l2
  have hgg : (g1.toList == g1.toList) = true := by simp
  have hss : (s.toList == s.toList) = true := by simp
  have hbn := bool_ne g2
  refine goM ?_
  refine l_callG (num_ _ _) ?_
  refine goM ?_
  refine wq_meetT (fun ρ h => h = H3 ∧ ρ 0 = v1 ∧ ρ 3 = .int .i64 ot ∧ ρ 12 = b ∧ ρ 13 = .int .i64 q2 ∧ ρ 14 = .str g1 ∧ ρ 15 = .bool g2) ?_ ?_
  · by_cases h0 : p3 = 0
    · obtain ⟨a1, a2, a3⟩ := hp h0
      subst h0
      have c1 := get15_ H3 a p1 ot (hM.sl (.there .here)) (by omega)
      have c2 := get15_ H3 a p1 p2 (hM.sl (.there .here)) (by omega)
      have c3 := storeMay_ H3 a p1 (hM.sl (.there .here)) (by omega)
      rw [a1] at c3
      rw [a2] at c2
      by_cases ho : ot = p2
      · have dn : (ot != p2) = false := by simpa using ho
        generalize getS p1 ot = y at *
        clear hp hd a1 a2 a3 l1 l2 ho
        refine goM ?_
        refine l_callG c1 ?_
        refine goM ?_
        refine l_callG c2 ?_
        refine goM ?_
        refine l_callG c3 ?_
        refine goM ?_
        exact ⟨rfl, by simp [put_app, put_none, rho0_app]⟩
      · have dn : (ot != p2) = true := by simpa using ho
        rw [a3 ho] at c1
        clear hp hd a1 a2 a3 l1 l2 ho
        refine goM ?_
        refine l_callG c1 ?_
        refine goM ?_
        refine l_callG c2 ?_
        repeat (first | (refine l_pl ?_; refine l_step (s_bin eLk eLk hbn) ?_) | (refine l_gd ?_; refine l_onG ?_; refine l_step (s_bin eLk eLk hbn) ?_) | (refine l_pl ?_; refine l_goM ?_) | (refine d_pl ?_; refine d_goM ?_) | (refine l_gd ?_; first | refine l_onG ?_ | refine l_offG ?_ | refine l_offU ?_) | (refine d_gd ?_; first | refine d_onG ?_ | refine d_offG ?_ | refine d_offU ?_) | (refine cond_pl ?_; first | refine cond_yes ?_ | refine cond_no ?_) | refine wq_seq ?_ | refine wq_line ?_ | refine wq_draw (by decide +kernel) ?_ | refine wq_block ?_ | refine l_nil ?_ | refine d_nil ?_ | refine wq_skip ?_ | refine wq_ret ?_ | refine wq_exit ?_ | refine th_normal ?_ | refine th_ret ?_ | refine th_exit ?_ | refine bk_normal ?_ | refine bk_ret ?_ | refine bk_exit ?_ | refine bk_other rfl ?_)
        refine l_callG c3 ?_
        refine goM ?_
        exact ⟨rfl, by simp [put_app, put_none, rho0_app]⟩
    · have dn : (p3 == 0) = false := by simpa using h0
      clear h0 hp hd
      refine goM ?_
      exact ⟨rfl, by simp [put_app, put_none, rho0_app]⟩
  · rintro ρ h ⟨rfl, g0, g3, g12, g13, g14, g15⟩
    clear hp
    refine goM ?_
    refine l_callG (num_ _ _) ?_
    by_cases h0 : q2 = 0
    · obtain ⟨a1, a2, a3⟩ := hd h0
      subst h0
      have c1 := get15_ h b q1 ot (hM.sl .here) (by omega)
      have c3 := storeMay_ h b q1 (hM.sl .here) (by omega)
      have hlq := (hM.sl .here).len T66 rfl
      rw [a1] at c3
      rw [a2] at hlq
      rw [a3] at c1
      clear hd a1 a2 a3 l1 l2
      refine goM ?_
      refine l_callG c1 ?_
      repeat (first | (refine l_pl ?_; refine l_step (s_bin eLk eLk hbn) ?_) | (refine l_gd ?_; refine l_onG ?_; refine l_step (s_bin eLk eLk hbn) ?_) | (refine l_pl ?_; refine l_goM ?_) | (refine d_pl ?_; refine d_goM ?_) | (refine l_gd ?_; first | refine l_onG ?_ | refine l_offG ?_ | refine l_offU ?_) | (refine d_gd ?_; first | refine d_onG ?_ | refine d_offG ?_ | refine d_offU ?_) | (refine cond_pl ?_; first | refine cond_yes ?_ | refine cond_no ?_) | refine wq_seq ?_ | refine wq_line ?_ | refine wq_draw (by decide +kernel) ?_ | refine wq_block ?_ | refine l_nil ?_ | refine d_nil ?_ | refine wq_skip ?_ | refine wq_ret ?_ | refine wq_exit ?_ | refine th_normal ?_ | refine th_ret ?_ | refine th_exit ?_ | refine bk_normal ?_ | refine bk_ret ?_ | refine bk_exit ?_ | refine bk_other rfl ?_)
      refine l_callG c3 ?_
      refine goM ?_
      exact end_1 (by first | exact .inl rfl | exact .inr rfl) ⟨rfl, hM.pre⟩
    · have dn : (q2 == 0) = false := by simpa using h0
      clear h0 hd
      refine goM ?_
      exact end_1 (by first | exact .inl rfl | exact .inr rfl) ⟨rfl, hM.pre⟩
end Go.Proofs.Ytekifjeckbndiaa.VM
