/- THE SMALL MACHINE, part X: slices that the function made itself, over what lay there before. -/
import Derived.Test.YtjageapgbpdlhaaVmW
namespace Go.Proofs.Ytjageapgbpdlhaa.VM
open Go
set_option linter.unusedVariables false
set_option linter.unusedSimpArgs false

variable {P : Program} {T : Tab} {α : Type}

/-- a slice made over B: nil, or a block of its own behind B -/
def Mine (sz : Nat) (R : List V → α → Prop) (B H : Heap) (v : V) (xs : List α) : Prop :=
  B <+: H ∧ ((v = .nils ∧ xs = []) ∨ ∃ b, B.length ≤ b ∧ Own sz R H b v xs)

theorem Mine.nil {sz : Nat} {R : List V → α → Prop} {B H : Heap} (hp : B <+: H) : Mine sz R B H .nils [] := ⟨hp, .inl ⟨rfl, rfl⟩⟩
theorem Mine.own {sz : Nat} {R : List V → α → Prop} {B H : Heap} {b : Nat} {v : V} {xs : List α} (hp : B <+: H) (hb : B.length ≤ b) (h : Own sz R H b v xs) : Mine sz R B H v xs := ⟨hp, .inr ⟨b, hb, h⟩⟩
theorem Mine.sl {sz : Nat} {R : List V → α → Prop} {B H : Heap} {v : V} {xs : List α} (h : Mine sz R B H v xs) : Sl sz R H v xs := by
  rcases h.2 with ⟨rfl, rfl⟩ | ⟨b, _, h⟩
  · exact .inl ⟨rfl, rfl⟩
  · exact h.sl
theorem Mine.pre {sz : Nat} {R : List V → α → Prop} {B H H' : Heap} {v : V} {xs : List α} (h : Mine sz R B H v xs) (hp : H <+: H') : Mine sz R B H' v xs :=
  ⟨h.1.trans hp, h.2.imp id fun ⟨b, h1, h2⟩ => ⟨b, h1, h2.pre hp⟩⟩
theorem Mine.low {sz : Nat} {R : List V → α → Prop} {B B' H : Heap} {v : V} {xs : List α} (h : Mine sz R B H v xs) (hp : B' <+: B) : Mine sz R B' H v xs :=
  ⟨hp.trans h.1, h.2.imp id fun ⟨b, h1, h2⟩ => ⟨b, Nat.le_trans hp.length_le h1, h2⟩⟩

theorem cells_zeros {sz : Nat} {R : List V → α → Prop} {z : List V} {x : α} (hl : z.length = sz) (h : R z x) : ∀ n, Cells sz R (zeros z n) (List.replicate n x)
  | 0 => Cells.nil
  | n + 1 => by
    have := Cells.cons (R := R) hl h (cells_zeros hl h n)
    unfold zeros at this ⊢
    rw [List.replicate_succ, List.replicate_succ, List.flatten_cons]
    exact this

theorem mine_make {sz : Nat} {R : List V → α → Prop} {B H : Heap} {cs : List V} {xs : List α} {t : Bool} (hp : B <+: H) (h : Cells sz R cs xs) : Mine sz R B (H ++ [.row cs true]) (.slc H.length 0 xs.length xs.length t sz) xs :=
  ⟨hp.trans (List.prefix_append _ _), .inr ⟨H.length, hp.length_le, own_make H h⟩⟩

/-- append -/
theorem Mine.append {sz : Nat} {R : List V → α → Prop} {B H : Heap} {v : V} {xs ys : List α} {news : List V} {ie : TI} (h : Mine sz R B H v xs) (hs : ie.size = sz) (hn : Cells sz R news ys)
    (hb : (xs.length + ys.length) * ie.bytes ≤ 2 ^ 47 ∧ xs.length + ys.length ≤ 2 ^ 47) : ∃ v' H', appendV ie v ys.length news H = some (v', H') ∧ Mine sz R B H' v' (xs ++ ys) := by
  obtain ⟨hp, h⟩ := h
  rcases h with ⟨rfl, rfl⟩ | ⟨b, hb1, ho⟩
  · by_cases h0 : ys.length = 0
    · have : ys = [] := List.length_eq_zero_iff.1 h0
      subst this
      have hn0 : news = [] := List.length_eq_zero_iff.1 (by rw [hn.1]; simp)
      subst hn0
      exact ⟨.nils, H, by simp [appendV], Mine.nil hp⟩
    · refine ⟨.slc H.length 0 ys.length ys.length false sz, H ++ [.row news true], ?_, mine_make hp hn⟩
      unfold appendV
      rw [hs, if_neg (by rw [hn.1]; simp)]
      simp only
      rw [if_neg h0, if_pos (by simpa using hb)]
  · obtain ⟨v', b', H', h1, h2, h3, h4⟩ := own_append ho hs hn hb
    refine ⟨v', H', h1, h3.pre hp hb1, .inr ⟨b', ?_, h2⟩⟩
    have := hp.length_le
    omega

theorem own_store {sz : Nat} {R : List V → α → Prop} {H : Heap} {b : Nat} {v : V} {xs : List α} (ho : Own sz R H b v xs) {t e : Nat} {i ie : TI} (hT : T t = some i) (hk : i.k = .slice e) (hE : T e = some ie) (hs : ie.size = sz) {k : Nat} (hk' : k < xs.length) :
    idxV T t v (k : Int) = some (.ptr b (k * sz)) ∧ ∀ w y, w.isTup = false → w.cells.length = sz → R w.cells y → ∃ H', storeV T e H b (k * sz) w = some H' ∧ Own sz R H' b v (xs.set k y) ∧ Fr b H H' := by
  obtain ⟨cap, t', cs, rfl, h1, h2, h3, h4⟩ := ho
  refine ⟨?_, fun w y hw hl hR => ?_⟩
  · obtain ⟨kk, size, bytes, zero, cmp⟩ := i
    simp only at hk
    subst hk
    simp only [idxV, hT, hE, hs]
    rw [if_pos ⟨by omega, by omega⟩]
    simp
  · have hlb : b < H.length := (List.getElem?_eq_some_iff.1 h2).1
    have hm : (k + 1) * sz ≤ xs.length * sz := Nat.mul_le_mul_right _ hk'
    rw [Nat.add_mul, Nat.one_mul] at hm
    have hfit : k * sz + w.cells.length ≤ cs.length := by rw [hl]; have := h4.1; omega
    have hst : storeV T e H b (k * sz) w = some (H.set b (.row (setL cs (k * sz) w.cells) true)) := by
      unfold storeV
      split
      · cases hw
      · rename_i i' hT' _
        rw [hE] at hT'
        obtain rfl := Option.some.inj hT'
        rw [if_pos (by rw [hl, hs])]
        unfold Heap.storeN
        rw [h2]
        simp only
        rw [if_pos hfit]
      · rename_i hT'
        rw [hE] at hT'
        cases hT'
    refine ⟨_, hst, ⟨cap, t', setL cs (k * sz) w.cells, by simp, by simpa using h1, by rw [List.getElem?_set_self hlb], by rw [setL_length]; exact h3, ?_, ?_, fun j x hj => ?_⟩, by simp, fun b' hb' hne => by rw [List.getElem?_set_ne (fun h => hne h.symm)]⟩
    · rw [setL_length, List.length_set]; exact h4.1
    · rw [List.length_take, setL_length, List.length_set, Nat.min_eq_left h4.1]
    · rw [List.length_set]
      have hjl : j < xs.length := by have := (List.getElem?_eq_some_iff.1 hj).1; simpa using this
      have hjm : (j + 1) * sz ≤ xs.length * sz := Nat.mul_le_mul_right _ hjl
      rw [Nat.add_mul, Nat.one_mul] at hjm
      rw [List.drop_take, List.take_take, Nat.min_eq_left (by omega)]
      by_cases hjk : k = j
      · subst hjk
        rw [List.getElem?_set_self hk'] at hj
        obtain rfl := Option.some.inj hj
        have : ((setL cs (k * sz) w.cells).drop (k * sz)).take sz = w.cells := by
          apply List.ext_getElem?
          intro q
          rw [List.getElem?_take]
          by_cases hq : q < sz
          · rw [if_pos hq, List.getElem?_drop, setL_get, if_pos (by omega), Nat.add_sub_cancel_left]
          · rw [if_neg hq, List.getElem?_eq_none (by omega)]
        rw [this]; exact hR
      · rw [List.getElem?_set_ne hjk] at hj
        have h0 := h4.cell hj
        have hout : ∀ q, q < sz → ¬ (k * sz ≤ j * sz + q ∧ j * sz + q < k * sz + w.cells.length ∧ j * sz + q < cs.length) := by
          intro q hq ⟨c1, c2, _⟩
          rw [hl] at c2
          rcases Nat.lt_or_gt_of_ne hjk with h | h
          · have : (k + 1) * sz ≤ j * sz := Nat.mul_le_mul_right _ h
            rw [Nat.add_mul, Nat.one_mul] at this; omega
          · have : (j + 1) * sz ≤ k * sz := Nat.mul_le_mul_right _ h
            rw [Nat.add_mul, Nat.one_mul] at this; omega
        have : ((setL cs (k * sz) w.cells).drop (j * sz)).take sz = (cs.drop (j * sz)).take sz := by
          apply List.ext_getElem?
          intro q
          rw [List.getElem?_take, List.getElem?_take]
          by_cases hq : q < sz
          · rw [if_pos hq, if_pos hq, List.getElem?_drop, List.getElem?_drop, setL_get, if_neg (hout q hq)]
          · rw [if_neg hq, if_neg hq]
        rw [this]; exact h0

/-- one element of it is written -/
theorem Mine.store {sz : Nat} {R : List V → α → Prop} {B H : Heap} {v : V} {xs : List α} (h : Mine sz R B H v xs) {t e : Nat} {i ie : TI} (hT : T t = some i) (hk : i.k = .slice e) (hE : T e = some ie) (hs : ie.size = sz) {k : Nat} (hk' : k < xs.length) :
    ∃ b o, idxV T t v (k : Int) = some (.ptr b o) ∧ ∀ w y, w.isTup = false → w.cells.length = sz → R w.cells y → ∃ H', storeV T e H b o w = some H' ∧ Mine sz R B H' v (xs.set k y) := by
  obtain ⟨hp, h⟩ := h
  rcases h with ⟨rfl, rfl⟩ | ⟨b, hb1, ho⟩
  · simp at hk'
  · obtain ⟨h1, h2⟩ := own_store ho hT hk hE hs hk'
    refine ⟨b, k * sz, h1, fun w y a b c => ?_⟩
    obtain ⟨H', e1, e2, e3⟩ := h2 w y a b c
    exact ⟨H', e1, e3.pre hp hb1, .inr ⟨_, hb1, e2⟩⟩

/-- a part of a slice -/
theorem Sl.part {sz : Nat} {R : List V → α → Prop} {H : Heap} {v : V} {xs : List α} (h : Sl sz R H v xs) {l k : Nat} (hl : l ≤ k) (hk : k ≤ xs.length) : ∃ u, sliceV sz v (some (.int .i64 (l : Int))) (some (.int .i64 (k : Int))) none = some u ∧ Sl sz R H u ((xs.take k).drop l) := by
  rcases h with ⟨rfl, rfl⟩ | ⟨b, off, cap, t, cs, wr, rfl, h1, h2, h3, h4⟩
  · simp at hk
    subst hk
    obtain rfl : l = 0 := by omega
    exact ⟨.nils, rfl, .inl ⟨rfl, by simp⟩⟩
  · have hlen : ((xs.take k).drop l).length = k - l := by simp; omega
    refine ⟨.slc b (off + l * sz) (k - l) (cap - l) t sz, ?_, .inr ⟨b, off + l * sz, cap - l, t, cs, wr, by rw [hlen], by omega, h2, ?_, fun j x hj => ?_⟩⟩
    · simp only [sliceV, boundV, Option.isSome_none, Bool.false_and, Bool.false_eq_true, if_false, ne_eq, not_true_eq_false]
      rw [if_pos (by omega)]
      simp only [Int.toNat_natCast]
      rw [if_pos (by omega)]
      simp
    · rw [hlen]
      have : (l + (k - l)) * sz ≤ xs.length * sz := Nat.mul_le_mul_right _ (by omega)
      rw [Nat.add_mul] at this
      omega
    · rw [List.getElem?_drop, List.getElem?_take] at hj
      split at hj
      · have := h4 (l + j) x hj
        rw [Nat.add_mul] at this
        rw [Nat.add_assoc]
        exact this
      · cases hj

theorem Sl.two {sz : Nat} {R : List V → α → Prop} {H : Heap} {v : V} {xs : List α} (h : Sl sz R H v xs) : v = .nils ∨ ∃ b o l c t s, v = .slc b o l c t s := by
  rcases h with ⟨h, _⟩ | ⟨b, off, cap, t, cs, wr, h, _⟩
  · exact .inl h
  · exact .inr ⟨_, _, _, _, _, _, h⟩

/-- the rest of a slice -/
theorem Sl.rest {sz : Nat} {R : List V → α → Prop} {H : Heap} {v : V} {xs : List α} (h : Sl sz R H v xs) {l : Nat} (hl : l ≤ xs.length) : ∃ u, sliceV sz v (some (.int .i64 (l : Int))) none none = some u ∧ Sl sz R H u (xs.drop l) := by
  rcases h with ⟨rfl, rfl⟩ | ⟨b, off, cap, t, cs, wr, rfl, h1, h2, h3, h4⟩
  · simp at hl
    subst hl
    exact ⟨.nils, rfl, .inl ⟨rfl, by simp⟩⟩
  · refine ⟨.slc b (off + l * sz) (xs.length - l) (cap - l) t sz, ?_, .inr ⟨b, off + l * sz, cap - l, t, cs, wr, by rw [List.length_drop], by rw [List.length_drop]; omega, h2, ?_, fun j x hj => ?_⟩⟩
    · simp only [sliceV, boundV, Option.isSome_none, Bool.false_and, Bool.false_eq_true, if_false, ne_eq, not_true_eq_false]
      rw [if_pos (by omega)]
      simp
    · rw [List.length_drop]
      have : (l + (xs.length - l)) * sz ≤ xs.length * sz := Nat.mul_le_mul_right _ (by omega)
      rw [Nat.add_mul] at this
      omega
    · rw [List.getElem?_drop] at hj
      have := h4 (l + j) x hj
      rw [Nat.add_mul] at this
      rw [Nat.add_assoc]
      exact this
/-- the block of a slice -/
def V.blk : V → Option Nat
  | .slc b _ _ _ _ _ => some b
  | _ => none
def Apart (v u : V) : Prop := ∀ b c, v.blk = some b → u.blk = some c → b ≠ c

theorem Sl.fr {α : Type} {sz : Nat} {R : List V → α → Prop} {H H' : Heap} {u : V} {zs : List α} (h : Sl sz R H u zs) (hf : ∀ c, c < H.length → u.blk = some c → H'[c]? = H[c]?) : Sl sz R H' u zs := by
  refine h.imp id ?_
  rintro ⟨b, off, cap, t, cs, wr, rfl, h2, h3, h4⟩
  exact ⟨b, off, cap, t, cs, wr, rfl, h2, by rw [hf b (List.getElem?_eq_some_iff.1 h3).1 rfl]; exact h3, h4⟩
theorem Sl.lt {α : Type} {sz : Nat} {R : List V → α → Prop} {H : Heap} {u : V} {zs : List α} (h : Sl sz R H u zs) {c : Nat} (hc : u.blk = some c) : c < H.length := by
  rcases h with ⟨rfl, _⟩ | ⟨b, off, cap, t, cs, wr, rfl, h2, h3, h4⟩
  · cases hc
  · cases hc; exact (List.getElem?_eq_some_iff.1 h3).1
theorem Mine.blk {α : Type} {sz : Nat} {R : List V → α → Prop} {B H : Heap} {v : V} {xs : List α} (h : Mine sz R B H v xs) {b : Nat} (hb : v.blk = some b) : B.length ≤ b ∧ b < H.length := by
  rcases h.2 with ⟨rfl, _⟩ | ⟨b', h1, h2⟩
  · cases hb
  · have hlt := h2.lt
    obtain ⟨cap, t, cs, rfl, _⟩ := h2
    cases hb
    exact ⟨h1, hlt⟩

end Go.Proofs.Ytjageapgbpdlhaa.VM
