/- THE SMALL MACHINE, part U: slices, fresh memory, numbers: what the walks look up. -/
import Derived.Test.YtjageapgbpdlhaaVmT
namespace Go.Proofs.Ytjageapgbpdlhaa.VM
open Go
set_option linter.unusedVariables false
set_option linter.unusedSimpArgs false

variable {P : Program} {T : Tab} {α : Type}

theorem loadN_pre {H H' : Heap} (hp : H <+: H') {b off n : Nat} {cs : List V} (h : H.loadN b off n = some cs) : H'.loadN b off n = some cs := by
  obtain ⟨l, rfl⟩ := hp
  unfold Heap.loadN at h ⊢
  split at h
  · rename_i ds wr hb
    rw [List.getElem?_append_left (List.getElem?_eq_some_iff.1 hb).1, hb]
    exact h
  · cases h

theorem loadN_app (h l : Heap) (k off n : Nat) : (h ++ l).loadN (h.length + k) off n = Heap.loadN l k off n := by
  unfold Heap.loadN
  rw [List.getElem?_append_right (by omega), Nat.add_sub_cancel_left]
theorem loadN_app0 (h l : Heap) (off n : Nat) : (h ++ l).loadN h.length off n = Heap.loadN l 0 off n := loadN_app h l 0 off n
theorem storeN_app (h l : Heap) (k off : Nat) (vs : List V) : (h ++ l).storeN (h.length + k) off vs = (Heap.storeN l k off vs).map (h ++ ·) := by
  unfold Heap.storeN
  rw [List.getElem?_append_right (by omega), Nat.add_sub_cancel_left]
  cases hk : l[k]? with
  | none => rfl
  | some x =>
    cases x with
    | row cs wr =>
      cases wr with
      | false => rfl
      | true =>
        simp only
        split
        · simp only [Option.map_some, Option.some.injEq]
          rw [List.set_append_right _ _ (by omega), Nat.add_sub_cancel_left]
        · rfl
    | mp es => rfl
    | dead => rfl
theorem storeN_app0 (h l : Heap) (off : Nat) (vs : List V) : (h ++ l).storeN h.length off vs = (Heap.storeN l 0 off vs).map (h ++ ·) := storeN_app h l 0 off vs

theorem loadV_agg {t : Nat} {i : TI} {h : Heap} {b off : Nat} {cs : List V} (hT : T t = some i) (ha : i.k.agg = true) (hl : h.loadN b off i.size = some cs) : loadV T t h b off = some (.agg cs) := by
  simp [loadV, hT, ha, hl]
theorem loadV_one {t : Nat} {i : TI} {h : Heap} {b off : Nat} {c : V} (hT : T t = some i) (ha : i.k.agg = false) (hl : h.loadN b off 1 = some [c]) : loadV T t h b off = some c := by
  simp [loadV, hT, ha, hl]

/-- a slice of xs; each element is known by its cells -/
def Sl (sz : Nat) (R : List V → α → Prop) (H : Heap) (v : V) (xs : List α) : Prop :=
  (v = .nils ∧ xs = []) ∨ ∃ b off cap t cs wr, v = .slc b off xs.length cap t sz ∧ xs.length ≤ cap ∧ H[b]? = some (.row cs wr) ∧ off + xs.length * sz ≤ cs.length ∧ ∀ (k : Nat) x, xs[k]? = some x → R ((cs.drop (off + k * sz)).take sz) x

theorem Sl.mono {sz : Nat} {R : List V → α → Prop} {H H' : Heap} {v : V} {xs : List α} (hp : H <+: H') (h : Sl sz R H v xs) : Sl sz R H' v xs := by
  refine h.imp id ?_
  rintro ⟨b, off, cap, t, cs, wr, h1, h2, h3, h4⟩
  refine ⟨b, off, cap, t, cs, wr, h1, h2, ?_, h4⟩
  obtain ⟨l, rfl⟩ := hp
  rw [List.getElem?_append_left (List.getElem?_eq_some_iff.1 h3).1]
  exact h3

theorem Sl.len {sz : Nat} {R : List V → α → Prop} {H : Heap} {v : V} {xs : List α} (h : Sl sz R H v xs) {t e : Nat} {i : TI} (hT : T t = some i) (hk : i.k = .slice e) : builtinP T .len [t] [v] = some (.int .i64 xs.length) := by
  obtain ⟨k, size, bytes, zero, cmp⟩ := i
  simp only at hk
  subst hk
  rcases h with ⟨rfl, rfl⟩ | ⟨b, off, cap, tt, cs, wr, rfl, _⟩
  · simp [builtinP, hT]
  · simp [builtinP, hT]

theorem Sl.get {sz : Nat} {R : List V → α → Prop} {H : Heap} {v : V} {xs : List α} (h : Sl sz R H v xs) {t e : Nat} {i ie : TI} (hT : T t = some i) (hk : i.k = .slice e) (hE : T e = some ie) (hs : ie.size = sz) {k : Nat} {x : α} (hx : xs[k]? = some x) :
    ∃ b o cs, idxV T t v (k : Int) = some (.ptr b o) ∧ R cs x ∧ cs.length = sz ∧ H.loadN b o sz = some cs ∧ ∀ (j : Nat) c, cs[j]? = some c → H.loadN b (o + j) 1 = some [c] := by
  obtain ⟨kk, size, bytes, zero, cmp⟩ := i
  simp only at hk
  subst hk
  rcases h with ⟨rfl, rfl⟩ | ⟨b, off, cap, tt, cs, wr, rfl, h1, h2, h3, h4⟩
  · simp at hx
  · have hkl : k < xs.length := (List.getElem?_eq_some_iff.1 hx).1
    have hsz : (k + 1) * sz ≤ xs.length * sz := Nat.mul_le_mul_right _ hkl
    rw [Nat.add_mul, Nat.one_mul] at hsz
    have hl : ((cs.drop (off + k * sz)).take sz).length = sz := by simp; omega
    refine ⟨b, off + k * sz, (cs.drop (off + k * sz)).take sz, ?_, h4 k x hx, hl, ?_, fun j c hj => ?_⟩
    · simp only [idxV, hT, hE, hs]
      rw [if_pos ⟨by omega, by omega⟩]
      simp
    · unfold Heap.loadN
      rw [h2]
      simp only
      rw [if_pos (by omega)]
    · have hj' : j < sz := by rw [← hl]; exact (List.getElem?_eq_some_iff.1 hj).1
      unfold Heap.loadN
      rw [h2]
      simp only
      rw [if_pos (by omega)]
      rw [List.getElem?_take, if_pos hj', List.getElem?_drop] at hj
      obtain ⟨hlt, rfl⟩ := List.getElem?_eq_some_iff.1 hj
      simp only [Option.some.injEq]
      rw [List.drop_eq_getElem_cons hlt]
      rfl

/-- whole numbers of 64 bits -/
def I64 (n : Int) : Prop := IntKind.i64.min ≤ n ∧ n ≤ IntKind.i64.max
theorem wrap_i64 {n : Int} (h1 : -9223372036854775808 ≤ n) (h2 : n ≤ 9223372036854775807) : IntKind.i64.wrap n = n := by
  unfold IntKind.wrap
  simp only [IntKind.bits, IntKind.signed, Bool.true_and, decide_eq_true_eq, Nat.reduceSub, Int.reducePow]
  split <;> (rename_i hh; simp at hh; omega)
theorem wrap_nat {n : Nat} (h : n ≤ 9223372036854775807) : IntKind.i64.wrap (n : Int) = n := wrap_i64 (by omega) (by omega)
theorem Sl.take {sz : Nat} {R : List V → α → Prop} {H : Heap} {v : V} {xs : List α} (h : Sl sz R H v xs) {k : Nat} (hk : k ≤ xs.length) : ∃ u, sliceV sz v none (some (.int .i64 (k : Int))) none = some u ∧ Sl sz R H u (xs.take k) := by
  rcases h with ⟨rfl, rfl⟩ | ⟨b, off, cap, t, cs, wr, rfl, h1, h2, h3, h4⟩
  · simp at hk
    subst hk
    exact ⟨.nils, rfl, .inl ⟨rfl, by simp⟩⟩
  · have hm : Nat.min k xs.length = k := Nat.min_eq_left hk
    refine ⟨.slc b off k cap t sz, ?_, .inr ⟨b, off, cap, t, cs, wr, by rw [List.length_take, Nat.min_eq_left hk], by rw [List.length_take]; omega, h2, ?_, fun j x hj => ?_⟩⟩
    · simp only [sliceV, boundV, Option.isSome_none, Bool.false_and, Bool.false_eq_true, if_false, ne_eq, not_true_eq_false]
      rw [if_pos (by omega)]
      simp
    · rw [List.length_take, Nat.min_eq_left hk]
      have : k * sz ≤ xs.length * sz := Nat.mul_le_mul_right _ hk
      omega
    · rw [List.getElem?_take] at hj
      split at hj
      · exact h4 j x hj
      · cases hj

theorem arr_idx {t n e b off q : Nat} {i ie : TI} (hT : T t = some i) (hk : i.k = .arr n e) (hE : T e = some ie) (hs : ie.size = 1) (hq : q < n) : idxV T t (.ptr b off) (q : Int) = some (.ptr b (off + q)) := by
  obtain ⟨k, size, bytes, zero, cmp⟩ := i
  simp only at hk
  subst hk
  simp only [idxV, hT, hE, hs]
  rw [if_pos ⟨by omega, by omega⟩]
  simp

theorem row_load {t q : Nat} {i : TI} {H : Heap} {cs : List V} {w : Bool} {v : V} (hT : T t = some i) (ha : i.k.agg = false) (hq : cs[q]? = some v) (l : Heap) : loadV T t (H ++ (.row cs w :: l)) H.length q = some v := by
  refine loadV_one hT ha ?_
  obtain ⟨hlt, rfl⟩ := List.getElem?_eq_some_iff.1 hq
  rw [loadN_app0]
  unfold Heap.loadN
  simp only [List.getElem?_cons_zero]
  rw [if_pos (by omega), List.drop_eq_getElem_cons hlt]
  rfl

theorem row_store {t q : Nat} {i : TI} {H : Heap} {cs : List V} {v : V} (hT : T t = some i) (hs : i.size = 1) (hv : v.cells = [v]) (ht : v.isTup = false) (hq : q < cs.length) : storeV T t (H ++ [.row cs true]) H.length q v = some (H ++ [.row (cs.set q v) true]) := by
  have hst : (H ++ [Blk.row cs true]).storeN H.length q [v] = some (H ++ [.row (cs.set q v) true]) := by
    rw [storeN_app0]
    unfold Heap.storeN
    simp only [List.getElem?_cons_zero, List.length_cons, List.length_nil]
    rw [if_pos (by omega)]
    rfl
  unfold storeV
  split
  · cases ht
  · rename_i j hT' _
    rw [hT] at hT'
    obtain rfl := Option.some.inj hT'
    rw [if_pos (by rw [hv, hs]; rfl), hv]
    exact hst
  · rename_i hT'
    rw [hT] at hT'
    cases hT'

theorem pend_load {ρ : Rho} {h : Heap} {t b off : Nat} {x : Operand} {v : V} (hx : ρ.ev x = some (.ptr b off)) (hl : loadV T t h b off = some v) : (⟨ρ, .load t x, v⟩ : PendR).holds T h := by
  unfold PendR.holds
  simp only [memOp, hx]
  unfold loadV at hl
  split at hl
  · rename_i i hT
    simp only [hT]
    split at hl
    · rename_i ha
      simp only [ha, if_true]
      cases hc : h.loadN b off i.size with
      | none => rw [hc] at hl; cases hl
      | some cs => rw [hc] at hl; simp only [Option.map_some, Option.some.injEq] at hl ⊢; rw [hl]
    · rename_i ha
      simp only [ha]
      split at hl
      · rename_i u hu
        simp only [Option.some.injEq] at hl
        subst hl
        simp only [hu, Bool.false_eq_true, if_false]
      · cases hl
  · cases hl

theorem wrap_succ {n : Nat} (h : n < 9223372036854775807) : IntKind.i64.wrap ((n : Int) + 1) = (n : Int) + 1 := wrap_i64 (by omega) (by omega)

theorem s_append {ρ : Rho} {h h' : Heap} {a b v : V} {xs : Array Operand} {t1 t2 : Nat} {e : Nat} {i ie : TI} {n : Nat} {news : List V} (hx : evs ρ.ev xs.toList = some [a, b]) (hT : T t1 = some i) (hk : i.k = .slice e) (hE : T e = some ie)
    (hn : newsOf T ie t2 b h = some (n, news)) (ha : appendV ie a n news h = some (v, h')) : Does T ρ h (.call { callee := .builtin .append, args := xs, argTypes := #[t1, t2] }) v h' := by
  obtain ⟨k, size, bytes, zero, cmp⟩ := i
  simp only at hk
  subst hk
  refine does_mem rfl ?_ ?_
  · simp only [pureOp, hx, builtinP]
  · simp only [memOp, hx, hT, hE, hn, ha]

theorem s_slice {ρ : Rho} {h : Heap} {a v : V} {x : Operand} {lo hi mx : Option Operand} {t e : Nat} {i ie : TI} {l u m : Option V} (hT : T t = some i) (hk : i.k = .slice e) (hE : T e = some ie) (hx : ρ.ev x = some a)
    (hl : optEv ρ.ev lo = some l) (hu : optEv ρ.ev hi = some u) (hm : optEv ρ.ev mx = some m) (hv : sliceV ie.size a l u m = some v) : Does T ρ h (.slice t x lo hi mx) v h := by
  obtain ⟨k, size, bytes, zero, cmp⟩ := i
  simp only at hk
  subst hk
  exact does_pure rfl (by simp only [pureOp, hT, hx, hl, hu, hm, hE, hv])

theorem s_buildSlice {ρ : Rho} {h : Heap} {t e len : Nat} {i ie : TI} {ps : Array (Nat × Operand)} {vs : List (Nat × V)} {cs : List V} (hT : T t = some i) (hk : i.k = .slice e) (hE : T e = some ie) (hp : evParts ρ.ev ps.toList = some vs) (hl : len * ie.size ≤ 2 ^ 24)
    (hf : fillV (rowPlace ie.size len) (zeros ie.zero len) vs = some cs) : Does T ρ h (.buildSlice t len ps) (.slc h.length 0 len len true ie.size) (h ++ [.row cs true]) := by
  obtain ⟨k, size, bytes, zero, cmp⟩ := i
  simp only at hk
  subst hk
  refine does_mem rfl rfl ?_
  simp only [memOp, hT, hE, hp]
  rw [if_pos hl, hf]

theorem s_buildSlice0 {ρ : Rho} {h : Heap} {t e sz : Nat} {i ie : TI} (hT : T t = some i) (hk : i.k = .slice e) (hE : T e = some ie) (hs : ie.size = sz) : Does T ρ h (.buildSlice t 0 #[]) (.slc h.length 0 0 0 true sz) (h ++ [.row [] true]) := by
  subst hs
  exact s_buildSlice (vs := []) (cs := []) hT hk hE rfl (by simp) rfl

theorem s_build {ρ : Rho} {h : Heap} {t : Nat} {i : TI} {fs : List (Nat × Nat)} {ps : Array (Nat × Operand)} {vs : List (Nat × V)} {cs : List V} (hT : T t = some i) (hk : i.k = .strct fs) (hp : evParts ρ.ev ps.toList = some vs)
    (hf : fillV (structPlace T fs) i.zero vs = some cs) : Does T ρ h (.build t ps) (.agg cs) h := by
  obtain ⟨k, size, bytes, zero, cmp⟩ := i
  simp only at hk
  subst hk
  refine does_pure rfl ?_
  simp only [pureOp, hT, hp, hf, Option.map_some]

theorem s_makeSlice {ρ : Rho} {h : Heap} {t e : Nat} {i ie : TI} {x y : Operand} {kx ky : IntKind} {n c : Int} (hT : T t = some i) (hk : i.k = .slice e) (hE : T e = some ie) (hx : ρ.ev x = some (.int kx n)) (hy : ρ.ev y = some (.int ky c))
    (hb : 0 ≤ n ∧ n ≤ c ∧ (ie.bytes : Int) * c ≤ 2 ^ 48 ∧ c ≤ IntKind.i64.max) : Does T ρ h (.makeSlice t x y) (.slc h.length 0 n.toNat c.toNat true ie.size) (h ++ [.row (zeros ie.zero c.toNat) true]) := by
  obtain ⟨k, size, bytes, zero, cmp⟩ := i
  simp only at hk
  subst hk
  refine does_mem rfl rfl ?_
  simp only [memOp, hT, hx, hy, hE]
  rw [if_pos hb]

theorem s_conv {ρ : Rho} {h : Heap} {sT dT : Nat} {x : Operand} {i j : TI} {k kx : IntKind} {n : Int} (hS : T sT = some j) (hD : T dT = some i) (hk : i.k = .int k) (hx : ρ.ev x = some (.int kx n)) : Does T ρ h (.convert sT dT x) (.int k (k.wrap n)) h := by
  obtain ⟨kk, size, bytes, zero, cmp⟩ := i
  simp only at hk
  subst hk
  exact does_pure rfl (by simp only [pureOp, hS, hD, hx])

end Go.Proofs.Ytjageapgbpdlhaa.VM
