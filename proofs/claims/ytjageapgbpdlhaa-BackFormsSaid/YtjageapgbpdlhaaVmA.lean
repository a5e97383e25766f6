/- THE SMALL MACHINE, part A: its values, its memory, how they stand to the model's. -/
import Derived.WalkKit
namespace Go.Proofs.Ytjageapgbpdlhaa.VM
open Go
set_option linter.unusedSimpArgs false
set_option linter.unusedVariables false

/-- the small machine's values: addresses are (block, offset) of its own memory -/
inductive V where
  | int (k : IntKind) (n : Int)
  | bool (b : Bool)
  | str (s : ByteArray)
  | ptr (b off : Nat)
  | nilp
  /-- sz: how many cells an element has -/
  | slc (b off len cap : Nat) (tight : Bool) (sz : Nat)
  | nils
  | map (b : Nat)
  | fn (f : Nat) (cap : List V)
  | agg (cs : List V)
  | tup (vs : List V)
  deriving Inhabited

/-- a value of one cell? -/
def V.one : V → Bool
  | .agg _ | .tup _ => false
  | _ => true

def V.cells : V → List V
  | .agg cs => cs
  | v => [v]

def V.undef : V := .tup []

inductive Blk where
  | row (cs : List V) (wr : Bool)
  | mp (es : List (Int × Int))
  | dead
  deriving Inhabited

abbrev Heap := List Blk
/-- where a block lies in the model's memory: the block, where it begins there, how many cells it has -/
structure Loc where
  B : Nat
  o : Nat
  n : Nat
abbrev Mu := Nat → Option Loc

mutual
def VR (μ : Mu) : V → Value → Prop
  | .int k n, w => w = .int k n
  | .bool b, w => w = .bool b
  | .str s, w => w = .string s
  | .ptr b off, w => ∃ x, μ b = some x ∧ w = .pointer (some ⟨x.B, x.o + off, none⟩)
  | .nilp, w => w = .pointer none
  | .slc b off len cap t sz, w => ∃ a c, w = .slice (some a) len c ∧ len ≤ cap ∧ cap ≤ c ∧ (t = true → c = cap) ∧ ((t = true ∧ cap = 0) ∨ ∃ x o, μ b = some x ∧ a = ⟨x.B, x.o + o, none⟩ ∧ o + c * sz ≤ x.n ∧ (0 < cap → o = off))
  | .nils, w => w = .slice none 0 0
  | .map b, w => ∃ x, μ b = some x ∧ w = .map (some x.B)
  | .fn f cap, w => ∃ cw, w = .func (.func f) #[] cw ∧ VRs μ cap cw.toList
  | .agg cs, w => ∃ cw, w = .agg cw ∧ (∀ c ∈ cs, c.one = true) ∧ VRs μ cs cw.toList
  | .tup vs, w => ∃ cw, w = .tuple cw ∧ VRs μ vs cw.toList
def VRs (μ : Mu) : List V → List Value → Prop
  | [], ws => ws = []
  | v :: vs, ws => ∃ w ws', ws = w :: ws' ∧ VR μ v w ∧ VRs μ vs ws'
end

section
variable {μ μ' : Mu}

def Mu.Le (μ μ' : Mu) : Prop := ∀ b x, μ b = some x → μ' b = some x
theorem Mu.Le.refl (μ : Mu) : Mu.Le μ μ := fun _ _ h => h
theorem Mu.Le.trans {μ'' : Mu} (h : Mu.Le μ μ') (k : Mu.Le μ' μ'') : Mu.Le μ μ'' := fun b x hx => k b x (h b x hx)

mutual
theorem VR.mono (h : Mu.Le μ μ') : ∀ {v : V} {w : Value}, VR μ v w → VR μ' v w
  | .int .., _, hw => by simpa only [VR] using hw
  | .bool .., _, hw => by simpa only [VR] using hw
  | .str .., _, hw => by simpa only [VR] using hw
  | .nilp, _, hw => by simpa only [VR] using hw
  | .nils, _, hw => by simpa only [VR] using hw
  | .ptr .., _, hw => by
    simp only [VR] at hw ⊢
    obtain ⟨x, hx, rfl⟩ := hw
    exact ⟨x, h _ _ hx, rfl⟩
  | .slc .., _, hw => by
    simp only [VR] at hw ⊢
    obtain ⟨a, c, e, h1, h2, h3, h4⟩ := hw
    refine ⟨a, c, e, h1, h2, h3, h4.imp id ?_⟩
    rintro ⟨x, o, hx, hr⟩
    exact ⟨x, o, h _ _ hx, hr⟩
  | .map .., _, hw => by
    simp only [VR] at hw ⊢
    obtain ⟨x, hx, rfl⟩ := hw
    exact ⟨x, h _ _ hx, rfl⟩
  | .fn f cap, _, hw => by
    simp only [VR] at hw ⊢
    obtain ⟨cw, rfl, hc⟩ := hw
    exact ⟨cw, rfl, VRs.mono h hc⟩
  | .agg cs, _, hw => by
    simp only [VR] at hw ⊢
    obtain ⟨cw, rfl, h1, hc⟩ := hw
    exact ⟨cw, rfl, h1, VRs.mono h hc⟩
  | .tup vs, _, hw => by
    simp only [VR] at hw ⊢
    obtain ⟨cw, rfl, hc⟩ := hw
    exact ⟨cw, rfl, VRs.mono h hc⟩
theorem VRs.mono (h : Mu.Le μ μ') : ∀ {vs : List V} {ws : List Value}, VRs μ vs ws → VRs μ' vs ws
  | [], _, hw => by simpa only [VRs] using hw
  | v :: vs, _, hw => by
    simp only [VRs] at hw ⊢
    obtain ⟨w, ws', rfl, h1, h2⟩ := hw
    exact ⟨w, ws', rfl, VR.mono h h1, VRs.mono h h2⟩
end

mutual
/-- what a value names lay there already -/
theorem VR.back (h : Mu.Le μ μ') : ∀ {v : V} {w w' : Value}, VR μ v w → VR μ' v w' → VR μ v w'
  | .int .., _, _, _, hw => by simpa only [VR] using hw
  | .bool .., _, _, _, hw => by simpa only [VR] using hw
  | .str .., _, _, _, hw => by simpa only [VR] using hw
  | .nilp, _, _, _, hw => by simpa only [VR] using hw
  | .nils, _, _, _, hw => by simpa only [VR] using hw
  | .ptr .., _, _, h0, hw => by
    simp only [VR] at h0 hw ⊢
    obtain ⟨x, hx, rfl⟩ := h0
    obtain ⟨x', hx', rfl⟩ := hw
    obtain rfl : x = x' := Option.some.inj ((h _ _ hx).symm.trans hx')
    exact ⟨x, hx, rfl⟩
  | .slc .., _, _, h0, hw => by
    simp only [VR] at h0 hw ⊢
    obtain ⟨a, c, e, h1, h2, h3, h4⟩ := h0
    obtain ⟨a', c', e', h1', h2', h3', h4'⟩ := hw
    refine ⟨a', c', e', h1', h2', h3', ?_⟩
    rcases h4 with h4 | ⟨x, o, hx, hr⟩
    · exact .inl h4
    · refine h4'.imp id ?_
      rintro ⟨x', o', hx', hr'⟩
      obtain rfl : x = x' := Option.some.inj ((h _ _ hx).symm.trans hx')
      exact ⟨x, o', hx, hr'⟩
  | .map .., _, _, h0, hw => by
    simp only [VR] at h0 hw ⊢
    obtain ⟨x, hx, rfl⟩ := h0
    obtain ⟨x', hx', rfl⟩ := hw
    obtain rfl : x = x' := Option.some.inj ((h _ _ hx).symm.trans hx')
    exact ⟨x, hx, rfl⟩
  | .fn f cap, _, _, h0, hw => by
    simp only [VR] at h0 hw ⊢
    obtain ⟨cw, rfl, hc⟩ := h0
    obtain ⟨cw', rfl, hc'⟩ := hw
    exact ⟨cw', rfl, VRs.back h hc hc'⟩
  | .agg cs, _, _, h0, hw => by
    simp only [VR] at h0 hw ⊢
    obtain ⟨cw, rfl, h1, hc⟩ := h0
    obtain ⟨cw', rfl, h1', hc'⟩ := hw
    exact ⟨cw', rfl, h1', VRs.back h hc hc'⟩
  | .tup vs, _, _, h0, hw => by
    simp only [VR] at h0 hw ⊢
    obtain ⟨cw, rfl, hc⟩ := h0
    obtain ⟨cw', rfl, hc'⟩ := hw
    exact ⟨cw', rfl, VRs.back h hc hc'⟩
theorem VRs.back (h : Mu.Le μ μ') : ∀ {vs : List V} {ws ws' : List Value}, VRs μ vs ws → VRs μ' vs ws' → VRs μ vs ws'
  | [], _, _, _, hw => by simpa only [VRs] using hw
  | v :: vs, _, _, h0, hw => by
    simp only [VRs] at h0 hw ⊢
    obtain ⟨w, ws1, rfl, h1, h2⟩ := h0
    obtain ⟨w', ws1', rfl, h1', h2'⟩ := hw
    exact ⟨w', ws1', rfl, VR.back h h1 h1', VRs.back h h2 h2'⟩
end

theorem VRs.length : ∀ {vs : List V} {ws : List Value}, VRs μ vs ws → ws.length = vs.length
  | [], _, h => by simp only [VRs] at h; subst h; rfl
  | v :: vs, _, h => by
    simp only [VRs] at h
    obtain ⟨w, ws', rfl, _, h2⟩ := h
    simp [VRs.length h2]

theorem VRs.get : ∀ {vs : List V} {ws : List Value}, VRs μ vs ws → ∀ {i : Nat} {v : V}, vs[i]? = some v → ∃ w, ws[i]? = some w ∧ VR μ v w
  | [], _, _, _, _, hi => by simp at hi
  | v :: vs, _, h, i, u, hi => by
    simp only [VRs] at h
    obtain ⟨w, ws', rfl, h1, h2⟩ := h
    cases i with
    | zero => simp at hi; subst hi; exact ⟨w, by simp, h1⟩
    | succ i => simp at hi; simpa using VRs.get h2 hi

theorem VRs.of_get : ∀ {vs : List V} {ws : List Value}, ws.length = vs.length → (∀ (i : Nat) v, vs[i]? = some v → ∃ w, ws[i]? = some w ∧ VR μ v w) → VRs μ vs ws
  | [], ws, hl, _ => by simp only [VRs]; exact List.length_eq_zero_iff.1 (by simpa using hl)
  | v :: vs, [], hl, _ => by simp at hl
  | v :: vs, w :: ws, hl, h => by
    simp only [VRs]
    refine ⟨w, ws, rfl, ?_, VRs.of_get (by simpa using hl) fun i u hu => ?_⟩
    · obtain ⟨w', hw', hr⟩ := h 0 v rfl
      simp at hw'; subst hw'; exact hr
    · simpa using h (i + 1) u (by simpa using hu)

theorem VRs.append {vs us : List V} {ws xs : List Value} (h : VRs μ vs ws) (k : VRs μ us xs) : VRs μ (vs ++ us) (ws ++ xs) := by
  induction vs generalizing ws with
  | nil => simp only [VRs] at h; subst h; exact k
  | cons v vs ih =>
    simp only [VRs] at h
    obtain ⟨w, ws', rfl, h1, h2⟩ := h
    simp only [List.cons_append, VRs]
    exact ⟨w, ws' ++ xs, rfl, h1, ih h2⟩

theorem VRs.set {vs : List V} {ws : List Value} (h : VRs μ vs ws) (i : Nat) {v : V} {w : Value} (hv : VR μ v w) : VRs μ (vs.set i v) (ws.set i w) := by
  refine VRs.of_get (by simp [h.length]) fun j u hj => ?_
  rw [List.getElem?_set] at hj
  rw [List.getElem?_set]
  by_cases hij : i = j
  · subst hij
    have hl := h.length
    by_cases hlt : i < vs.length
    · simp [hlt] at hj; subst hj; exact ⟨w, by simp [hl, hlt], hv⟩
    · simp [hlt] at hj
  · simp only [hij, if_false] at hj ⊢
    exact h.get hj

theorem VRs.take {vs : List V} {ws : List Value} (h : VRs μ vs ws) (n : Nat) : VRs μ (vs.take n) (ws.take n) := by
  refine VRs.of_get (by simp [h.length]) fun j u hj => ?_
  rw [List.getElem?_take] at hj ⊢
  by_cases hj' : j < n
  · simp only [hj', if_true] at hj ⊢; exact h.get hj
  · simp [hj'] at hj

theorem VRs.drop {vs : List V} {ws : List Value} (h : VRs μ vs ws) (n : Nat) : VRs μ (vs.drop n) (ws.drop n) := by
  refine VRs.of_get (by simp [h.length]) fun j u hj => ?_
  rw [List.getElem?_drop] at hj ⊢
  exact h.get hj

theorem VR.undef : VR μ V.undef Go.undef := by
  simp only [V.undef, VR, VRs, Go.undef]
  exact ⟨#[], rfl, rfl⟩

theorem VR.cells {v : V} {w : Value} (h : VR μ v w) (ht : ∀ vs, v ≠ .tup vs) : VRs μ v.cells w.cells.toList ∧ ∀ c ∈ v.cells, c.one = true := by
  have one : ∀ {v : V} {w : Value}, v.cells = [v] → w.cells = #[w] → v.one = true → VR μ v w → VRs μ v.cells w.cells.toList ∧ ∀ c ∈ v.cells, c.one = true := by
    intro v w h1 h2 h3 h
    rw [h1, h2]
    refine ⟨?_, fun c hc => by simp at hc; subst hc; exact h3⟩
    simp only [VRs]
    exact ⟨w, [], rfl, h, rfl⟩
  cases v with
  | agg cs =>
    simp only [VR] at h
    obtain ⟨cw, rfl, h1, hc⟩ := h
    exact ⟨hc, h1⟩
  | tup vs => exact absurd rfl (ht vs)
  | int => have h' := h; simp only [VR] at h'; subst h'; exact one rfl rfl rfl h
  | bool => have h' := h; simp only [VR] at h'; subst h'; exact one rfl rfl rfl h
  | str => have h' := h; simp only [VR] at h'; subst h'; exact one rfl rfl rfl h
  | ptr => have h' := h; simp only [VR] at h'; obtain ⟨_, _, rfl⟩ := h'; exact one rfl rfl rfl h
  | nilp => have h' := h; simp only [VR] at h'; subst h'; exact one rfl rfl rfl h
  | slc => have h' := h; simp only [VR] at h'; obtain ⟨_, _, rfl, _⟩ := h'; exact one rfl rfl rfl h
  | nils => have h' := h; simp only [VR] at h'; subst h'; exact one rfl rfl rfl h
  | map => have h' := h; simp only [VR] at h'; obtain ⟨_, _, rfl⟩ := h'; exact one rfl rfl rfl h
  | fn => have h' := h; simp only [VR] at h'; obtain ⟨_, rfl, _⟩ := h'; exact one rfl rfl rfl h

/-- no cell of the model's is an aggregate where the small machine's is one cell -/
theorem VR.oneValue {v : V} {w : Value} (h : VR μ v w) (h1 : v.one = true) : (∀ cs, w ≠ .agg cs) ∧ ∀ cs, w ≠ .tuple cs := by
  cases v <;> simp only [V.one, Bool.false_eq_true] at h1 <;> simp only [VR] at h
  all_goals first
    | (subst h; exact ⟨nofun, nofun⟩)
    | (obtain ⟨_, _, rfl⟩ := h; exact ⟨nofun, nofun⟩)
    | (obtain ⟨_, rfl, _⟩ := h; exact ⟨nofun, nofun⟩)
    | (obtain ⟨_, _, rfl, _⟩ := h; exact ⟨nofun, nofun⟩)
end

/-- what may become of a block -/
def Blk.Le : Blk → Blk → Prop
  | .row cs false, b => b = .row cs false
  | .row _ true, b => (∃ cs', b = .row cs' true) ∨ b = .dead
  | .mp _, b => ∃ es', b = .mp es'
  | .dead, b => b = .dead

theorem Blk.Le.refl (b : Blk) : b.Le b := by
  cases b with
  | row cs wr => cases wr <;> simp [Blk.Le]
  | mp es => simp [Blk.Le]
  | dead => simp [Blk.Le]
theorem Blk.Le.trans {a b c : Blk} (h : a.Le b) (k : b.Le c) : a.Le c := by
  cases a with
  | row cs wr =>
    cases wr with
    | false => simp only [Blk.Le] at h; subst h; exact k
    | true =>
      simp only [Blk.Le] at h ⊢
      rcases h with ⟨cs', rfl⟩ | rfl
      · simpa only [Blk.Le] using k
      · simp only [Blk.Le] at k; exact .inr k
  | mp es =>
    simp only [Blk.Le] at h ⊢
    obtain ⟨es', rfl⟩ := h
    simpa only [Blk.Le] using k
  | dead => simp only [Blk.Le] at h; subst h; exact k

/-- a block that may be written: where it lies nothing else lies -/
def Blk.own : Blk → Bool
  | .row _ true => true
  | .mp _ => true
  | _ => false

structure Sim (μ : Mu) (H : Heap) (w : World) : Prop where
  lt : ∀ b x, μ b = some x → b < H.length ∧ x.B < w.heap.size
  row : ∀ b x cs wr, μ b = some x → H[b]? = some (.row cs wr) → ∀ (i : Nat) v, cs[i]? = some v → v.one = true ∧ ∃ cv, w.cell? ⟨x.B, x.o + i, none⟩ = some cv ∧ VR μ v cv
  ext : ∀ b x cs wr, μ b = some x → H[b]? = some (.row cs wr) → cs.length ≤ x.n ∧ ∀ i, i < x.n → ∃ cv, w.cell? ⟨x.B, x.o + i, none⟩ = some cv
  free : ∀ b x cs, μ b = some x → H[b]? = some (.row cs true) → ∀ i, i < x.n → w.frozen? ⟨x.B, x.o + i, none⟩ = false
  sole : ∀ b x k, μ b = some x → H[b]? = some k → k.own = true → ∀ b' x' k', b' ≠ b → μ b' = some x' → H[b']? = some k' → k' ≠ .dead → x'.B ≠ x.B
  mp : ∀ b x es, μ b = some x → H[b]? = some (.mp es) → ∃ (cs : Array MapEntry) (cl : Nat), w.heap[x.B]? = some (.map cs cl) ∧ cs.toList.map (fun e => (e.key, e.val)) = es.map fun p => (Value.int .i64 p.1, Value.int .i64 p.2)

/-- from one state of both machines to a later one -/
structure Tr (μ : Mu) (H : Heap) (w : World) (μ' : Mu) (H' : Heap) (w' : World) : Prop where
  ext : Mu.Le μ μ'
  fresh : ∀ b x, μ' b = some x → μ b = none → H.length ≤ b ∧ (w.heap.size ≤ x.B ∨ ∃ b0 x0 k, μ b0 = some x0 ∧ x0.B = x.B ∧ H[b0]? = some k ∧ k.own = true ∧ H'[b0]? = some .dead)
  stay : ∀ (b : Nat) k, H[b]? = some k → ∃ k', H'[b]? = some k' ∧ k.Le k'
  size : w.heap.size ≤ w'.heap.size
  frame : ∀ B, B < w.heap.size → (∀ b x k, μ b = some x → H[b]? = some k → k.own = true → x.B ≠ B) → w'.heap[B]? = w.heap[B]?
  os : w'.os = w.os
  tape : w'.tape = w.tape
  output : w'.output = w.output

theorem Tr.len {μ H w μ' H' w'} (h : Tr μ H w μ' H' w') : H.length ≤ H'.length := by
  apply Nat.le_of_not_lt
  intro hlt
  obtain ⟨k', hk', _⟩ := h.stay H'.length (H[H'.length]) (by simp [hlt])
  simp at hk'

theorem Tr.refl (μ H w) : Tr μ H w μ H w :=
  ⟨Mu.Le.refl _, fun b x h h' => by simp [h] at h', fun _ k h => ⟨k, h, Blk.Le.refl k⟩, Nat.le_refl _, fun _ _ _ => rfl, rfl, rfl, rfl⟩

theorem own_back {k k' : Blk} (h : k.Le k') (ho : k'.own = true) : k.own = true := by
  cases k with
  | row cs wr =>
    cases wr with
    | false => simp only [Blk.Le] at h; subst h; simp [Blk.own] at ho
    | true => rfl
  | mp es => rfl
  | dead => simp only [Blk.Le] at h; subst h; simp [Blk.own] at ho

theorem Tr.trans {μ H w μ' H' w' μ'' H'' w''} (h : Tr μ H w μ' H' w') (k : Tr μ' H' w' μ'' H'' w'') (hl : ∀ b x, μ b = some x → b < H.length) : Tr μ H w μ'' H'' w'' := by
  refine ⟨h.ext.trans k.ext, fun b x hx hn => ?_, fun b b0 hb => ?_, Nat.le_trans h.size k.size, fun B hB hno => ?_, k.os.trans h.os, k.tape.trans h.tape, k.output.trans h.output⟩
  · cases h' : μ' b with
    | some y =>
      obtain rfl : x = y := Option.some.inj (hx.symm.trans (k.ext _ _ h'))
      obtain ⟨h1, h2⟩ := h.fresh b x h' hn
      refine ⟨h1, h2.imp id ?_⟩
      rintro ⟨b0, x0, q, e1, e2, e3, e4, e5⟩
      obtain ⟨q', hq', hle⟩ := k.stay b0 _ e5
      simp only [Blk.Le] at hle; subst hle
      exact ⟨b0, x0, q, e1, e2, e3, e4, hq'⟩
    | none =>
      obtain ⟨h1, h2⟩ := k.fresh b x hx h'
      refine ⟨Nat.le_trans h.len h1, ?_⟩
      rcases h2 with h2 | ⟨b0, x0, q, e1, e2, e3, e4, e5⟩
      · exact .inl (Nat.le_trans h.size h2)
      · cases h0 : μ b0 with
        | some y =>
          obtain rfl : x0 = y := Option.some.inj (e1.symm.trans (h.ext _ _ h0))
          have hlt := hl _ _ h0
          obtain ⟨q', hq', hle⟩ := h.stay b0 H[b0] (by simp [hlt])
          obtain rfl : q = q' := Option.some.inj (e3.symm.trans hq')
          exact .inr ⟨b0, x0, H[b0], h0, e2, by simp [hlt], own_back hle e4, e5⟩
        | none =>
          rcases (h.fresh b0 x0 e1 h0).2 with h3 | ⟨b1, x1, q1, f1, f2, f3, f4, f5⟩
          · exact .inl (by omega)
          · obtain ⟨q', hq', hle⟩ := k.stay b1 _ f5
            simp only [Blk.Le] at hle; subst hle
            exact .inr ⟨b1, x1, q1, f1, f2.trans e2, f3, f4, hq'⟩
  · obtain ⟨b1, h1, l1⟩ := h.stay b b0 hb
    obtain ⟨b2, h2, l2⟩ := k.stay b b1 h1
    exact ⟨b2, h2, l1.trans l2⟩
  · rw [k.frame B (Nat.lt_of_lt_of_le hB h.size) ?_, h.frame B hB hno]
    intro b x q hx hq ho heq
    cases h0 : μ b with
    | some y =>
      obtain rfl : x = y := Option.some.inj (hx.symm.trans (h.ext _ _ h0))
      have hlt := hl _ _ h0
      obtain ⟨q', hq', hle⟩ := h.stay b H[b] (by simp [hlt])
      obtain rfl : q = q' := Option.some.inj (hq.symm.trans hq')
      exact hno b x H[b] h0 (by simp [hlt]) (own_back hle ho) heq
    | none =>
      rcases (h.fresh b x hx h0).2 with h3 | ⟨b1, x1, q1, f1, f2, f3, f4, f5⟩
      · omega
      · exact hno b1 x1 q1 f1 f3 f4 (f2.trans heq)

end Go.Proofs.Ytjageapgbpdlhaa.VM
