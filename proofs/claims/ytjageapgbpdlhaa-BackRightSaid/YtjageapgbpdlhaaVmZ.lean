/- THE SMALL MACHINE, part Z: append to a slice that was made here, with what it leaves as it was; single cells written. -/
import Derived.Test.YtjageapgbpdlhaaVmY
namespace Go.Proofs.Ytjageapgbpdlhaa.VM
open Go
set_option linter.unusedVariables false
set_option linter.unusedSimpArgs false

variable {P : Program} {T : Tab} {α β : Type}

/-- only v's block was turned -/
def Keep (v : V) (H H' : Heap) : Prop := H.length ≤ H'.length ∧ ∀ c, c < H.length → v.blk ≠ some c → H'[c]? = H[c]?
/-- v' lies where v lay, or behind all -/
def Moved (v : V) (H : Heap) (v' : V) : Prop := ∀ b, v'.blk = some b → v.blk = some b ∨ H.length ≤ b

theorem Own.blk {sz : Nat} {R : List V → α → Prop} {H : Heap} {b : Nat} {v : V} {xs : List α} (h : Own sz R H b v xs) : v.blk = some b := by
  obtain ⟨cap, t, cs, rfl, _⟩ := h; rfl

theorem Mine.app {sz : Nat} {R : List V → α → Prop} {B H : Heap} {v : V} {xs ys : List α} {news : List V} {ie : TI} (h : Mine sz R B H v xs) (hs : ie.size = sz) (hn : Cells sz R news ys)
    (hb : (xs.length + ys.length) * ie.bytes ≤ 2 ^ 47 ∧ xs.length + ys.length ≤ 2 ^ 47) : ∃ v' H', appendV ie v ys.length news H = some (v', H') ∧ Mine sz R B H' v' (xs ++ ys) ∧ Keep v H H' ∧ Moved v H v' := by
  obtain ⟨hp, h⟩ := h
  rcases h with ⟨rfl, rfl⟩ | ⟨b, hb1, ho⟩
  · by_cases h0 : ys.length = 0
    · have : ys = [] := List.length_eq_zero_iff.1 h0
      subst this
      have hn0 : news = [] := List.length_eq_zero_iff.1 (by rw [hn.1]; simp)
      subst hn0
      exact ⟨.nils, H, by simp [appendV], Mine.nil hp, ⟨Nat.le_refl _, fun _ _ _ => rfl⟩, fun b hb => by cases hb⟩
    · refine ⟨.slc H.length 0 ys.length ys.length false sz, H ++ [.row news true], ?_, mine_make hp hn, ⟨by simp, fun c hc _ => List.getElem?_append_left hc⟩, fun b hb => by cases hb; exact .inr (Nat.le_refl _)⟩
      unfold appendV
      rw [hs, if_neg (by rw [hn.1]; simp)]
      simp only
      rw [if_neg h0, if_pos (by simpa using hb)]
  · obtain ⟨v', b', H', h1, h2, h3, h4⟩ := own_append ho hs hn hb
    refine ⟨v', H', h1, ⟨h3.pre hp hb1, .inr ⟨b', ?_, h2⟩⟩, ⟨h3.1, fun c hc hne => h3.2 c hc fun e => hne (by rw [ho.blk, e])⟩, fun c hc => ?_⟩
    · have := hp.length_le; omega
    · rw [h2.blk] at hc
      cases hc
      rcases h4 with rfl | h4
      · exact .inl ho.blk
      · exact .inr h4

theorem Keep.sl {sz : Nat} {R : List V → β → Prop} {v u : V} {H H' : Heap} {zs : List β} (hk : Keep v H H') (h : Sl sz R H u zs) (ha : Apart v u) : Sl sz R H' u zs :=
  h.fr fun c hc hu => hk.2 c hc fun e => ha c c e hu rfl
theorem Moved.apart {sz : Nat} {R : List V → β → Prop} {v v' u : V} {H : Heap} {zs : List β} (hm : Moved v H v') (h : Sl sz R H u zs) (ha : Apart v u) : Apart v' u := fun b c hb hc => by
  rcases hm b hb with h1 | h1
  · exact ha b c h1 hc
  · have := h.lt hc; omega

theorem end_heap {rs : List ResultVar} {R : V → Heap → Prop} {x : Exit} {ρ : Rho} {h h' : Heap} (e : h = h') (w : EndR T rs R x ρ h') : EndR T rs R x ρ h := by subst e; exact w
theorem len_row (H : Heap) (a b : Blk) : (H ++ [a]).length = (H ++ [b]).length := by simp

/-- one cell of a block is written -/
theorem cell_store {t b off : Nat} {i : TI} {H : Heap} {cs : List V} {v : V} (hT : T t = some i) (hs : i.size = 1) (hb : H[b]? = some (.row cs true)) (ho : off < cs.length) (hv : v.cells = [v]) (ht : v.isTup = false) : storeV T t H b off v = some (H.set b (.row (cs.set off v) true)) := by
  unfold storeV
  split
  · cases ht
  · rename_i j hT' _
    rw [hT] at hT'
    obtain rfl := Option.some.inj hT'
    rw [if_pos (by rw [hv, hs]; rfl), hv]
    unfold Heap.storeN
    rw [hb]
    simp only
    rw [if_pos (by simp; omega)]
    rfl
  · rename_i hT'
    rw [hT] at hT'
    cases hT'
theorem ld_agg {t b : Nat} {i : TI} {H : Heap} {cs : List V} {w : Bool} (hT : T t = some i) (ha : i.k.agg = true) (hg : H[b]? = some (.row cs w)) (hl : cs.length = i.size) : loadV T t H b 0 = some (.agg cs) := by
  refine loadV_agg hT ha ?_
  unfold Heap.loadN
  rw [hg]
  simp only
  rw [if_pos (by omega), List.drop_zero, ← hl, List.take_of_length_le (Nat.le_refl _)]
theorem ld_cell {t b q : Nat} {i : TI} {H : Heap} {cs : List V} {w : Bool} {v : V} (hT : T t = some i) (ha : i.k.agg = false) (hg : H[b]? = some (.row cs w)) (hq : cs[q]? = some v) : loadV T t H b q = some v := by
  refine loadV_one hT ha ?_
  obtain ⟨hlt, rfl⟩ := List.getElem?_eq_some_iff.1 hq
  unfold Heap.loadN
  rw [hg]
  simp only
  rw [if_pos (by omega), List.drop_eq_getElem_cons hlt]
  rfl
theorem pre_set {B H : Heap} {b : Nat} {k : Blk} (hp : B <+: H) (hb : B.length ≤ b) : B <+: H.set b k := by
  refine List.prefix_iff_getElem?.2 fun i hi => ?_
  rw [List.getElem?_set_ne (by omega)]
  exact List.prefix_iff_getElem?.1 hp i hi
theorem pre_get {B H : Heap} {b : Nat} {k : Blk} (hp : B <+: H) (h : B[b]? = some k) : H[b]? = some k := by
  obtain ⟨l, rfl⟩ := hp
  rw [List.getElem?_append_left (List.getElem?_eq_some_iff.1 h).1]; exact h
theorem Sl.cells {sz : Nat} {R : List V → α → Prop} {H : Heap} {v : V} {xs : List α} (h : Sl sz R H v xs) : v.cells = [v] ∧ v.isTup = false := by
  rcases h.two with rfl | ⟨_, _, _, _, _, _, rfl⟩ <;> exact ⟨rfl, rfl⟩
end Go.Proofs.Ytjageapgbpdlhaa.VM
