/- THE SMALL MACHINE, part V: slices that were made by the function itself: what append does, what is lent. -/
import Derived.Test.YtjageapgbpdlhaaVmU
namespace Go.Proofs.Ytjageapgbpdlhaa.VM
open Go
set_option linter.unusedVariables false
set_option linter.unusedSimpArgs false

variable {P : Program} {T : Tab} {α : Type}

theorem l_heap {ops : Array Oper} {l : List Oper} {Q : Rho → Heap → Prop} {ρ : Rho} {h h' : Heap} (e : h = h') (w : wqL P T ops l Q ρ h') : wqL P T ops l Q ρ h := by subst e; exact w

theorem wq_heap {c : Code} {Q : Exit → Rho → Heap → Prop} {ρ : Rho} {h h' : Heap} (e : h = h') (w : wq P T c Q ρ h') : wq P T c Q ρ h := by subst e; exact w
theorem d_heap {ops : Array Oper} {k : Nat} {l : List Oper} {Q : Rho → Heap → Prop} {ρ : Rho} {h h' : Heap} (e : h = h') (w : wqD P T ops k l Q ρ h') : wqD P T ops k l Q ρ h := by subst e; exact w

/-- what is known of the temporaries from here on -/
theorem wq_cut {c : Code} {Q : Exit → Rho → Heap → Prop} {ρ : Rho} {h : Heap} (F : Rho → Prop) (h0 : F ρ) (w : ∀ ρ, F ρ → wq P T c Q ρ h) : wq P T c Q ρ h := w ρ h0

theorem setL_get {α : Type} (cs : List α) : ∀ (vs : List α) (i : Nat) (j : Nat), (setL cs i vs)[j]? = if i ≤ j ∧ j < i + vs.length ∧ j < cs.length then vs[j - i]? else cs[j]?
  | vs, i, j => by
    induction vs generalizing cs i with
    | nil => simp [setL]; intro h1 h2; omega
    | cons v vs ih =>
      simp only [setL]
      rw [ih]
      simp only [List.length_set, List.length_cons]
      by_cases h1 : i + 1 ≤ j ∧ j < i + 1 + vs.length ∧ j < cs.length
      · rw [if_pos h1, if_pos (by omega)]
        obtain ⟨k, rfl⟩ : ∃ k, j = i + 1 + k := ⟨j - (i + 1), by omega⟩
        rw [show i + 1 + k - (i + 1) = k by omega, show i + 1 + k - i = k + 1 by omega]
        simp
      · rw [if_neg h1, List.getElem?_set]
        by_cases h2 : i = j
        · subst h2
          by_cases h3 : i < cs.length
          · simp [h3]
          · simp [h3]
        · rw [if_neg h2, if_neg (by omega)]

theorem setL_tail {α : Type} {cs vs : List α} {i : Nat} (h : i + vs.length ≤ cs.length) : setL cs i vs = cs.take i ++ vs ++ cs.drop (i + vs.length) := by
  apply List.ext_getElem?
  intro j
  rw [setL_get]
  by_cases h1 : j < i
  · rw [if_neg (by omega), List.append_assoc, List.getElem?_append_left (by rw [List.length_take]; omega), List.getElem?_take, if_pos h1]
  · by_cases h2 : j < i + vs.length
    · rw [if_pos (by omega), List.append_assoc, List.getElem?_append_right (by rw [List.length_take]; omega), List.length_take, Nat.min_eq_left (by omega), List.getElem?_append_left (by omega)]
    · rw [if_neg (by omega), List.getElem?_append_right (by simp; omega)]
      simp only [List.length_append, List.length_take, List.getElem?_drop]
      rw [Nat.min_eq_left (by omega)]
      congr 1; omega

/-- the cells of xs -/
def Cells (sz : Nat) (R : List V → α → Prop) (cs : List V) (xs : List α) : Prop := cs.length = xs.length * sz ∧ ∀ (k : Nat) x, xs[k]? = some x → R ((cs.drop (k * sz)).take sz) x

theorem Cells.nil {sz : Nat} {R : List V → α → Prop} : Cells sz R [] [] := ⟨by simp, by simp⟩
theorem Cells.one {sz : Nat} {R : List V → α → Prop} {cs : List V} {x : α} (hl : cs.length = sz) (h : R cs x) : Cells sz R cs [x] := ⟨by simp [hl], fun k y hk => by
  cases k with
  | zero => simp at hk; subst hk; simp [← hl]; exact h
  | succ k => simp at hk⟩
theorem Cells.app {sz : Nat} {R : List V → α → Prop} {cs ds : List V} {xs ys : List α} (h : Cells sz R cs xs) (g : Cells sz R ds ys) : Cells sz R (cs ++ ds) (xs ++ ys) := by
  refine ⟨by simp [h.1, g.1, Nat.add_mul], fun k x hk => ?_⟩
  by_cases hl : k < xs.length
  · rw [List.getElem?_append_left hl] at hk
    have h1 := h.2 k x hk
    have : (k + 1) * sz ≤ xs.length * sz := Nat.mul_le_mul_right _ hl
    rw [Nat.add_mul, Nat.one_mul] at this
    have h3 := h.1
    rw [List.drop_append_of_le_length (by omega), List.take_append_of_le_length (by simp; omega)]
    exact h1
  · obtain ⟨j, rfl⟩ : ∃ j, k = xs.length + j := ⟨k - xs.length, by omega⟩
    rw [List.getElem?_append_right (by omega), Nat.add_sub_cancel_left] at hk
    have h1 := g.2 j x hk
    rw [Nat.add_mul, ← h.1, List.drop_append, List.drop_eq_nil_of_le (by omega), List.nil_append, Nat.add_sub_cancel_left]
    exact h1
theorem Cells.cons {sz : Nat} {R : List V → α → Prop} {cs ds : List V} {x : α} {ys : List α} (hl : cs.length = sz) (h : R cs x) (g : Cells sz R ds ys) : Cells sz R (cs ++ ds) (x :: ys) := (Cells.one hl h).app g
theorem Cells.take {sz : Nat} {R : List V → α → Prop} {cs : List V} {xs : List α} (h : Cells sz R cs xs) (n : Nat) (hn : n ≤ xs.length) : Cells sz R (cs.take (n * sz)) (xs.take n) := by
  have h3 : n * sz ≤ xs.length * sz := Nat.mul_le_mul_right _ hn
  refine ⟨by rw [List.length_take, List.length_take, h.1, Nat.min_eq_left hn, Nat.min_eq_left h3], fun k x hk => ?_⟩
  rw [List.getElem?_take] at hk
  split at hk
  · rename_i hkn
    have h1 := h.2 k x hk
    have : (k + 1) * sz ≤ n * sz := Nat.mul_le_mul_right _ hkn
    rw [Nat.add_mul, Nat.one_mul] at this
    rw [List.drop_take, List.take_take, Nat.min_eq_left (by omega)]
    exact h1
  · cases hk

/-- xs lie at the beginning of a block -/
def At0 (sz : Nat) (R : List V → α → Prop) (cs : List V) (xs : List α) : Prop := xs.length * sz ≤ cs.length ∧ Cells sz R (cs.take (xs.length * sz)) xs

theorem At0.cell {sz : Nat} {R : List V → α → Prop} {cs : List V} {xs : List α} (h : At0 sz R cs xs) {k : Nat} {x : α} (hk : xs[k]? = some x) : R ((cs.drop (k * sz)).take sz) x := by
  have h1 := h.2.2 k x hk
  have hlt : k < xs.length := (List.getElem?_eq_some_iff.1 hk).1
  have : (k + 1) * sz ≤ xs.length * sz := Nat.mul_le_mul_right _ hlt
  rw [Nat.add_mul, Nat.one_mul] at this
  rw [List.drop_take, List.take_take, Nat.min_eq_left (by omega)] at h1
  exact h1

/-- a slice that the function made itself: it begins where its block begins, and the block may be written -/
def Own (sz : Nat) (R : List V → α → Prop) (H : Heap) (b : Nat) (v : V) (xs : List α) : Prop :=
  ∃ cap t cs, v = .slc b 0 xs.length cap t sz ∧ xs.length ≤ cap ∧ H[b]? = some (.row cs true) ∧ cs.length = cap * sz ∧ At0 sz R cs xs

theorem Own.sl {sz : Nat} {R : List V → α → Prop} {H : Heap} {b : Nat} {v : V} {xs : List α} (h : Own sz R H b v xs) : Sl sz R H v xs := by
  obtain ⟨cap, t, cs, rfl, h1, h2, h3, h4⟩ := h
  refine .inr ⟨b, 0, cap, t, cs, true, rfl, h1, h2, by have := h4.1; omega, fun k x hk => ?_⟩
  rw [Nat.zero_add]
  exact h4.cell hk

/-- nothing but block b was turned -/
def Fr (b : Nat) (H H' : Heap) : Prop := H.length ≤ H'.length ∧ ∀ b', b' < H.length → b' ≠ b → H'[b']? = H[b']?

theorem Fr.refl (b : Nat) (H : Heap) : Fr b H H := ⟨Nat.le_refl _, fun _ _ _ => rfl⟩
theorem Fr.pre {b : Nat} {H H' H0 : Heap} (hp : H0 <+: H) (hb : H0.length ≤ b) (h : Fr b H H') : H0 <+: H' := by
  have hl := hp.length_le
  refine List.prefix_iff_getElem?.2 fun i hi => ?_
  rw [h.2 i (by omega) (by omega)]
  exact List.prefix_iff_getElem?.1 hp i hi
theorem Fr.own {b c : Nat} {H H' : Heap} {sz : Nat} {R : List V → α → Prop} {v : V} {xs : List α} (h : Fr b H H') (hne : c ≠ b) (ho : Own sz R H c v xs) : Own sz R H' c v xs := by
  obtain ⟨cap, t, cs, h0, h1, h2, h3⟩ := ho
  exact ⟨cap, t, cs, h0, h1, by rw [h.2 c (List.getElem?_eq_some_iff.1 h2).1 hne]; exact h2, h3⟩
theorem Own.pre {H H' : Heap} {sz : Nat} {R : List V → α → Prop} {b : Nat} {v : V} {xs : List α} (hp : H <+: H') (ho : Own sz R H b v xs) : Own sz R H' b v xs := by
  obtain ⟨cap, t, cs, h0, h1, h2, h3⟩ := ho
  obtain ⟨l, rfl⟩ := hp
  exact ⟨cap, t, cs, h0, h1, by rw [List.getElem?_append_left (List.getElem?_eq_some_iff.1 h2).1]; exact h2, h3⟩
theorem Own.lt {H : Heap} {sz : Nat} {R : List V → α → Prop} {b : Nat} {v : V} {xs : List α} (ho : Own sz R H b v xs) : b < H.length := by
  obtain ⟨cap, t, cs, h0, h1, h2, h3⟩ := ho
  exact (List.getElem?_eq_some_iff.1 h2).1

theorem own_make {sz : Nat} {R : List V → α → Prop} {cs : List V} {xs : List α} {t : Bool} (H : Heap) (h : Cells sz R cs xs) : Own sz R (H ++ [.row cs true]) H.length (.slc H.length 0 xs.length xs.length t sz) xs :=
  ⟨xs.length, t, cs, rfl, Nat.le_refl _, by simp, h.1, by rw [← h.1]; exact Nat.le_refl _, by rw [List.take_of_length_le (by rw [h.1]; exact Nat.le_refl _)]; exact h⟩

theorem Sl.news {sz : Nat} {R : List V → α → Prop} {H : Heap} {w : V} {ys : List α} (h : Sl sz R H w ys) {t2 e2 : Nat} {i2 ie : TI} (hT : T t2 = some i2) (hk : i2.k = .slice e2) (hs : ie.size = sz) : ∃ news, newsOf T ie t2 w H = some (ys.length, news) ∧ Cells sz R news ys := by
  obtain ⟨k, size, bytes, zero, cmp⟩ := i2
  simp only at hk
  subst hk
  rcases h with ⟨rfl, rfl⟩ | ⟨b, off, cap, t, cs, wr, rfl, h1, h2, h3, h4⟩
  · exact ⟨[], by simp [newsOf, hT], Cells.nil⟩
  · cases ys with
    | nil => exact ⟨[], by simp [newsOf, hT], Cells.nil⟩
    | cons y ys =>
      refine ⟨(cs.drop off).take ((y :: ys).length * sz), ?_, ?_, fun k x hk => ?_⟩
      · simp only [newsOf, hT]
        rw [if_neg (by simp)]
        unfold Heap.loadN
        rw [h2]
        simp only
        rw [hs, if_pos (by omega)]
        rfl
      · rw [List.length_take, List.length_drop]; omega
      · have hlt : k < (y :: ys).length := (List.getElem?_eq_some_iff.1 hk).1
        have : (k + 1) * sz ≤ (y :: ys).length * sz := Nat.mul_le_mul_right _ hlt
        rw [Nat.add_mul, Nat.one_mul] at this
        rw [List.drop_take, List.take_take, Nat.min_eq_left (by omega), List.drop_drop]
        exact h4 k x hk

theorem news_row {t2 e2 n c : Nat} {i2 ie : TI} {t w : Bool} {sz : Nat} {H : Heap} {cs : List V} (hT : T t2 = some i2) (hk : i2.k = .slice e2) (hn : n ≠ 0) (hl : cs.length = n * ie.size) : newsOf T ie t2 (.slc H.length 0 n c t sz) (H ++ [.row cs w]) = some (n, cs) := by
  obtain ⟨k, size, bytes, zero, cmp⟩ := i2
  simp only at hk
  subst hk
  simp only [newsOf, hT]
  rw [if_neg hn, loadN_app0]
  unfold Heap.loadN
  simp only [List.getElem?_cons_zero, Nat.zero_add, List.drop_zero, ← hl]
  rw [if_pos (Nat.le_refl _), List.take_of_length_le (Nat.le_refl _)]
  rfl

/-- APPEND TO WHAT THE FUNCTION MADE ITSELF -/
theorem own_append {sz : Nat} {R : List V → α → Prop} {H : Heap} {b : Nat} {v : V} {xs ys : List α} {news : List V} {ie : TI} (ho : Own sz R H b v xs) (hs : ie.size = sz) (hn : Cells sz R news ys)
    (hb : (xs.length + ys.length) * ie.bytes ≤ 2 ^ 47 ∧ xs.length + ys.length ≤ 2 ^ 47) :
    ∃ v' b' H', appendV ie v ys.length news H = some (v', H') ∧ Own sz R H' b' v' (xs ++ ys) ∧ Fr b H H' ∧ (b' = b ∨ H.length ≤ b') := by
  obtain ⟨cap, t, cs, rfl, h1, h2, h3, h4⟩ := ho
  have hlb : b < H.length := (List.getElem?_eq_some_iff.1 h2).1
  have hold : At0 sz R cs xs := h4
  unfold appendV
  rw [hs, if_neg (by rw [hn.1]; simp)]
  simp only
  rw [if_neg (by simp)]
  by_cases hc : xs.length + ys.length ≤ cap
  · rw [if_pos hc]
    by_cases h0 : ys.length = 0
    · rw [if_pos h0]
      have : ys = [] := List.length_eq_zero_iff.1 h0
      subst this
      exact ⟨_, b, H, rfl, ⟨cap, t, cs, by simp, by simpa using h1, h2, h3, by simpa using h4⟩, Fr.refl _ _, .inl rfl⟩
    · rw [if_neg h0]
      have hm : (xs.length + ys.length) * sz ≤ cap * sz := Nat.mul_le_mul_right _ hc
      rw [Nat.add_mul] at hm
      have hfit : 0 + xs.length * sz + news.length ≤ cs.length := by rw [hn.1, h3]; omega
      refine ⟨.slc b 0 (xs.length + ys.length) cap t sz, b, H.set b (.row (setL cs (0 + xs.length * sz) news) true), ?_, ⟨cap, t, setL cs (0 + xs.length * sz) news, by simp, by simpa using hc, ?_, by rw [setL_length]; exact h3, ?_⟩, ⟨by simp, fun b' hb' hne => ?_⟩, .inl rfl⟩
      · unfold Heap.storeN
        rw [h2]
        simp only
        rw [if_pos hfit]
        rfl
      · rw [List.getElem?_set_self hlb]
      · rw [setL_tail hfit, Nat.zero_add]
        have e1 : (cs.take (xs.length * sz)).length = xs.length * sz := h4.2.1
        have e2 : (cs.take (xs.length * sz) ++ news).length = (xs ++ ys).length * sz := (h4.2.app hn).1
        refine ⟨by rw [← e2, List.length_append (bs := List.drop _ _)]; exact Nat.le_add_right _ _, ?_⟩
        rw [List.take_append_of_le_length (by rw [e2]; exact Nat.le_refl _), List.take_of_length_le (by rw [e2]; exact Nat.le_refl _)]
        exact h4.2.app hn
      · rw [List.getElem?_set_ne (fun h => hne h.symm)]
  · rw [if_neg hc, if_pos hb, h2]
    have hl : H.loadN b 0 (xs.length * sz) = some (cs.take (xs.length * sz)) := by
      unfold Heap.loadN
      rw [h2]
      simp only
      rw [if_pos (by have := h4.1; omega)]
      simp
    rw [hl]
    simp only
    have hcell := h4.2.app hn
    have fin : ∀ (H1 : Heap), H1.length = H.length → Fr b H H1 → ∃ v' b' H', some (V.slc H.length 0 (xs.length + ys.length) (xs.length + ys.length) false sz, H1 ++ [Blk.row (cs.take (xs.length * sz) ++ news) true]) = some (v', H') ∧ Own sz R H' b' v' (xs ++ ys) ∧ Fr b H H' ∧ (b' = b ∨ H.length ≤ b') := by
      intro H1 hl1 hf
      refine ⟨_, H.length, _, rfl, ?_, ⟨by simp [hl1], fun b' hb' hne => ?_⟩, .inr (Nat.le_refl _)⟩
      · have := own_make (t := false) H1 hcell
        rw [hl1, List.length_append] at this
        exact this
      · rw [List.getElem?_append_left (by omega)]
        exact hf.2 b' hb' hne
    cases t with
    | true => rw [if_pos rfl]; exact fin H rfl (Fr.refl _ _)
    | false =>
      simp only [Bool.false_eq_true, if_false, if_true]
      exact fin (H.set b .dead) (by simp) ⟨by simp, fun b' hb' hne => by rw [List.getElem?_set_ne (fun h => hne h.symm)]⟩

/-- a slice with something behind it -/
def Lent (sz : Nat) (R : List V → α → Prop) (H : Heap) (v : V) (xs ms : List α) : Prop :=
  ∃ b cap t cs wr, v = .slc b 0 xs.length cap t sz ∧ (xs ++ ms).length ≤ cap ∧ H[b]? = some (.row cs wr) ∧ At0 sz R cs (xs ++ ms)

theorem Lent.pre {sz : Nat} {R : List V → α → Prop} {H H' : Heap} {v : V} {xs ms : List α} (hp : H <+: H') (h : Lent sz R H v xs ms) : Lent sz R H' v xs ms := by
  obtain ⟨b, cap, t, cs, wr, h0, h1, h2, h3⟩ := h
  obtain ⟨l, rfl⟩ := hp
  exact ⟨b, cap, t, cs, wr, h0, h1, by rw [List.getElem?_append_left (List.getElem?_eq_some_iff.1 h2).1]; exact h2, h3⟩

theorem Own.lend {sz : Nat} {R : List V → α → Prop} {H : Heap} {b : Nat} {v : V} {xs ms : List α} (h : Own sz R H b v (xs ++ ms)) : ∃ u, sliceV sz v none (some (.int .i64 (xs.length : Int))) none = some u ∧ Lent sz R H u xs ms := by
  obtain ⟨cap, t, cs, rfl, h1, h2, h3, h4⟩ := h
  rw [List.length_append] at h1
  refine ⟨.slc b 0 xs.length cap t sz, ?_, b, cap, t, cs, true, rfl, by rw [List.length_append]; exact h1, h2, h4⟩
  simp only [sliceV, boundV, Option.isSome_none, Bool.false_and, Bool.false_eq_true, if_false, ne_eq, not_true_eq_false]
  rw [if_pos (by omega)]
  simp

theorem At0.take {sz : Nat} {R : List V → α → Prop} {cs : List V} {xs ms : List α} (h : At0 sz R cs (xs ++ ms)) : At0 sz R cs xs := by
  have hl : xs.length * sz ≤ (xs ++ ms).length * sz := Nat.mul_le_mul_right _ (by simp)
  have h1 := h.1
  refine ⟨by omega, ?_⟩
  have := h.2.take xs.length (by simp)
  rw [List.take_take, Nat.min_eq_left hl, List.take_left] at this
  exact this

theorem Lent.sl {sz : Nat} {R : List V → α → Prop} {H : Heap} {v : V} {xs ms : List α} (h : Lent sz R H v xs ms) : Sl sz R H v xs := by
  obtain ⟨b, cap, t, cs, wr, rfl, h1, h2, h3⟩ := h
  have h4 := h3.take
  rw [List.length_append] at h1
  refine .inr ⟨b, 0, cap, t, cs, wr, rfl, by omega, h2, by have := h4.1; omega, fun k x hk => ?_⟩
  rw [Nat.zero_add]
  exact h4.cell hk

/-- what was lent, with what stands behind it -/
theorem Lent.full {sz : Nat} {R : List V → α → Prop} {H : Heap} {v : V} {xs ms : List α} (h : Lent sz R H v xs ms) {n : Int} (hn : n = ((xs ++ ms).length : Int)) : ∃ u, sliceV sz v none (some (.int .i64 n)) none = some u ∧ Sl sz R H u (xs ++ ms) := by
  subst hn
  obtain ⟨b, cap, t, cs, wr, rfl, h1, h2, h3⟩ := h
  refine ⟨.slc b 0 (xs ++ ms).length cap t sz, ?_, .inr ⟨b, 0, cap, t, cs, wr, rfl, h1, h2, by have := h3.1; omega, fun k x hk => ?_⟩⟩
  · simp only [sliceV, boundV, Option.isSome_none, Bool.false_and, Bool.false_eq_true, if_false, ne_eq, not_true_eq_false]
    rw [if_pos (by omega)]
    simp
    omega
  · rw [Nat.zero_add]
    exact h3.cell hk
end Go.Proofs.Ytjageapgbpdlhaa.VM
