/- Joined texts: VmA, VmB, VmC, VmD, VmE, VmF, VmG, VmH, VmI, VmJ. -/
import Derived.WalkKit
import Derived.Lib.ConvBytes
namespace Go.Proofs.YtncjbjlmgnjhiaaGreat.VM
open Go
set_option linter.unusedSimpArgs false
set_option linter.unusedVariables false
inductive V where
 | int (k : IntKind) (n : Int)
 | bool (b : Bool)
 | str (s : ByteArray)
 | ptr (b off : Nat)
 | Co
 | slc (b off len cap : Nat) (tight : Bool) (sz : Nat)
 | AN
 | nilm
 | map (b : Nat)
 | fn (f : Nat) (cap : List V)
 | agg (cs : List V)
 | tup (vs : List V)
 deriving Inhabited
def V.one : V → Bool
 | .agg _ | .tup _ => false
 | _ => true
def V.cells : V → List V
 | .agg cs => cs
 | v => [v]
def V.undef : V := .tup []
inductive Blk where
 | row (cs : List V) (wr : Bool)
 | mp (es : List (Int × Int))
 | dead
 deriving Inhabited
abbrev Heap := List Blk
structure Loc where
 B : Nat
 o : Nat
 n : Nat
abbrev Mu := Nat → Option Loc
mutual
def VR (μ : Mu) : V → Value → Prop
 | .int k n, w => w = .int k n
 | .bool b, w => w = .bool b
 | .str s, w => w = .string s
 | .ptr b off, w => ∃ x, μ b = some x ∧ w = .pointer (some ⟨x.B, x.o + off, none⟩)
 | .Co, w => w = .pointer none
 | .slc b off len cap t sz, w => ∃ a c, w = .slice (some a) len c ∧ len ≤ cap ∧ cap ≤ c ∧ (t = true → c = cap) ∧ ((t = true ∧ cap = 0) ∨ ∃ x o, μ b = some x ∧ a = ⟨x.B, x.o + o, none⟩ ∧ o + c * sz ≤ x.n ∧ (0 < cap → o = off))
 | .AN, w => w = .slice none 0 0
 | .nilm, w => w = .map none
 | .map b, w => ∃ x, μ b = some x ∧ w = .map (some x.B)
 | .fn f cap, w => ∃ cw, w = .func (.func f) #[] cw ∧ VRs μ cap cw.toList
 | .agg cs, w => ∃ cw, w = .agg cw ∧ (∀ c ∈ cs, c.one = true) ∧ VRs μ cs cw.toList
 | .tup vs, w => ∃ cw, w = .tuple cw ∧ VRs μ vs cw.toList
def VRs (μ : Mu) : List V → List Value → Prop
 | [], ws => ws = []
 | v :: vs, ws => ∃ w ws', ws = w :: ws' ∧ VR μ v w ∧ VRs μ vs ws'
end
section
variable {μ μ' : Mu}
def Mu.Le (μ μ' : Mu) : Prop := ∀ b x, μ b = some x → μ' b = some x
theorem Mu.Le.refl (μ : Mu) : Mu.Le μ μ := fun _ _ h => h
theorem Mu.Le.trans {μ'' : Mu} (h : Mu.Le μ μ') (k : Mu.Le μ' μ'') : Mu.Le μ μ'' := fun b x hx => k b x (h b x hx)
mutual
theorem VR.mono (h : Mu.Le μ μ') : ∀ {v : V} {w : Value}, VR μ v w → VR μ' v w
 | .int .., _, hw => by simpa only [VR] using hw
 | .bool .., _, hw => by simpa only [VR] using hw
 | .str .., _, hw => by simpa only [VR] using hw
 | .Co, _, hw => by simpa only [VR] using hw
 | .AN, _, hw => by simpa only [VR] using hw
 | .nilm, _, hw => by simpa only [VR] using hw
 | .ptr .., _, hw => by
  simp only [VR] at hw ⊢
  obtain ⟨x, hx, rfl⟩ := hw
  exact ⟨x, h _ _ hx, rfl⟩
 | .slc .., _, hw => by
  simp only [VR] at hw ⊢
  obtain ⟨a, c, e, h1, h2, h3, h4⟩ := hw
  refine ⟨a, c, e, h1, h2, h3, h4.imp id ?_⟩
  rintro ⟨x, o, hx, hr⟩
  exact ⟨x, o, h _ _ hx, hr⟩
 | .map .., _, hw => by
  simp only [VR] at hw ⊢
  obtain ⟨x, hx, rfl⟩ := hw
  exact ⟨x, h _ _ hx, rfl⟩
 | .fn f cap, _, hw => by
  simp only [VR] at hw ⊢
  obtain ⟨cw, rfl, hc⟩ := hw
  exact ⟨cw, rfl, VRs.mono h hc⟩
 | .agg cs, _, hw => by
  simp only [VR] at hw ⊢
  obtain ⟨cw, rfl, h1, hc⟩ := hw
  exact ⟨cw, rfl, h1, VRs.mono h hc⟩
 | .tup vs, _, hw => by
  simp only [VR] at hw ⊢
  obtain ⟨cw, rfl, hc⟩ := hw
  exact ⟨cw, rfl, VRs.mono h hc⟩
theorem VRs.mono (h : Mu.Le μ μ') : ∀ {vs : List V} {ws : List Value}, VRs μ vs ws → VRs μ' vs ws
 | [], _, hw => by simpa only [VRs] using hw
 | v :: vs, _, hw => by
  simp only [VRs] at hw ⊢
  obtain ⟨w, ws', rfl, h1, h2⟩ := hw
  exact ⟨w, ws', rfl, VR.mono h h1, VRs.mono h h2⟩
end
mutual
theorem VR.back (h : Mu.Le μ μ') : ∀ {v : V} {w w' : Value}, VR μ v w → VR μ' v w' → VR μ v w'
 | .int .., _, _, _, hw => by simpa only [VR] using hw
 | .bool .., _, _, _, hw => by simpa only [VR] using hw
 | .str .., _, _, _, hw => by simpa only [VR] using hw
 | .Co, _, _, _, hw => by simpa only [VR] using hw
 | .AN, _, _, _, hw => by simpa only [VR] using hw
 | .nilm, _, _, _, hw => by simpa only [VR] using hw
 | .ptr .., _, _, h0, hw => by
  simp only [VR] at h0 hw ⊢
  obtain ⟨x, hx, rfl⟩ := h0
  obtain ⟨x', hx', rfl⟩ := hw
  obtain rfl : x = x' := Option.some.inj ((h _ _ hx).symm.trans hx')
  exact ⟨x, hx, rfl⟩
 | .slc .., _, _, h0, hw => by
  simp only [VR] at h0 hw ⊢
  obtain ⟨a, c, e, h1, h2, h3, h4⟩ := h0
  obtain ⟨a', c', e', h1', h2', h3', h4'⟩ := hw
  refine ⟨a', c', e', h1', h2', h3', ?_⟩
  rcases h4 with h4 | ⟨x, o, hx, hr⟩
  ·exact .inl h4
  ·refine h4'.imp id ?_
   rintro ⟨x', o', hx', hr'⟩
   obtain rfl : x = x' := Option.some.inj ((h _ _ hx).symm.trans hx')
   exact ⟨x, o', hx, hr'⟩
 | .map .., _, _, h0, hw => by
  simp only [VR] at h0 hw ⊢
  obtain ⟨x, hx, rfl⟩ := h0
  obtain ⟨x', hx', rfl⟩ := hw
  obtain rfl : x = x' := Option.some.inj ((h _ _ hx).symm.trans hx')
  exact ⟨x, hx, rfl⟩
 | .fn f cap, _, _, h0, hw => by
  simp only [VR] at h0 hw ⊢
  obtain ⟨cw, rfl, hc⟩ := h0
  obtain ⟨cw', rfl, hc'⟩ := hw
  exact ⟨cw', rfl, VRs.back h hc hc'⟩
 | .agg cs, _, _, h0, hw => by
  simp only [VR] at h0 hw ⊢
  obtain ⟨cw, rfl, h1, hc⟩ := h0
  obtain ⟨cw', rfl, h1', hc'⟩ := hw
  exact ⟨cw', rfl, h1', VRs.back h hc hc'⟩
 | .tup vs, _, _, h0, hw => by
  simp only [VR] at h0 hw ⊢
  obtain ⟨cw, rfl, hc⟩ := h0
  obtain ⟨cw', rfl, hc'⟩ := hw
  exact ⟨cw', rfl, VRs.back h hc hc'⟩
theorem VRs.back (h : Mu.Le μ μ') : ∀ {vs : List V} {ws ws' : List Value}, VRs μ vs ws → VRs μ' vs ws' → VRs μ vs ws'
 | [], _, _, _, hw => by simpa only [VRs] using hw
 | v :: vs, _, _, h0, hw => by
  simp only [VRs] at h0 hw ⊢
  obtain ⟨w, ws1, rfl, h1, h2⟩ := h0
  obtain ⟨w', ws1', rfl, h1', h2'⟩ := hw
  exact ⟨w', ws1', rfl, VR.back h h1 h1', VRs.back h h2 h2'⟩
end
theorem VRs.length : ∀ {vs : List V} {ws : List Value}, VRs μ vs ws → ws.length = vs.length
 | [], _, h => by simp only [VRs] at h; subst h; rfl
 | v :: vs, _, h => by
  simp only [VRs] at h
  obtain ⟨w, ws', rfl, _, h2⟩ := h
  simp [VRs.length h2]
theorem VRs.get : ∀ {vs : List V} {ws : List Value}, VRs μ vs ws → ∀ {i : Nat} {v : V}, vs[i]? = some v → ∃ w, ws[i]? = some w ∧ VR μ v w
 | [], _, _, _, _, hi => by simp at hi
 | v :: vs, _, h, i, u, hi => by
  simp only [VRs] at h
  obtain ⟨w, ws', rfl, h1, h2⟩ := h
  cases i with
  | zero => simp at hi; subst hi; exact ⟨w, by simp, h1⟩
  | succ i => simp at hi; simpa using VRs.get h2 hi
theorem VRs.KY : ∀ {vs : List V} {ws : List Value}, ws.length = vs.length → (∀ (i : Nat) v, vs[i]? = some v → ∃ w, ws[i]? = some w ∧ VR μ v w) → VRs μ vs ws
 | [], ws, hl, _ => by simp only [VRs]; exact List.length_eq_zero_iff.1 (by simpa using hl)
 | v :: vs, [], hl, _ => by simp at hl
 | v :: vs, w :: ws, hl, h => by
  simp only [VRs]
  refine ⟨w, ws, rfl, ?_, VRs.KY (by simpa using hl) fun i u hu => ?_⟩
  ·obtain ⟨w', hw', hr⟩ := h 0 v rfl
   simp at hw'; subst hw'; exact hr
  ·simpa using h (i + 1) u (by simpa using hu)
theorem VRs.append {vs us : List V} {ws xs : List Value} (h : VRs μ vs ws) (k : VRs μ us xs) : VRs μ (vs ++ us) (ws ++ xs) := by
 induction vs generalizing ws with
 | nil => simp only [VRs] at h; subst h; exact k
 | cons v vs ih =>
  simp only [VRs] at h
  obtain ⟨w, ws', rfl, h1, h2⟩ := h
  simp only [List.cons_append, VRs]
  exact ⟨w, ws' ++ xs, rfl, h1, ih h2⟩
theorem VRs.set {vs : List V} {ws : List Value} (h : VRs μ vs ws) (i : Nat) {v : V} {w : Value} (hv : VR μ v w) : VRs μ (vs.set i v) (ws.set i w) := by
 refine VRs.KY (by simp [h.length]) fun j u hj => ?_
 rw [List.getElem?_set] at hj
 rw [List.getElem?_set]
 by_cases hij : i = j
 ·subst hij
  have hl := h.length
  by_cases hlt : i < vs.length
  ·simp [hlt] at hj; subst hj; exact ⟨w, by simp [hl, hlt], hv⟩
  ·simp [hlt] at hj
 ·simp only [hij, if_false] at hj ⊢
  exact h.get hj
theorem VRs.take {vs : List V} {ws : List Value} (h : VRs μ vs ws) (n : Nat) : VRs μ (vs.take n) (ws.take n) := by
 refine VRs.KY (by simp [h.length]) fun j u hj => ?_
 rw [List.getElem?_take] at hj ⊢
 by_cases hj' : j < n
 ·simp only [hj', if_true] at hj ⊢; exact h.get hj
 ·simp [hj'] at hj
theorem VRs.drop {vs : List V} {ws : List Value} (h : VRs μ vs ws) (n : Nat) : VRs μ (vs.drop n) (ws.drop n) := by
 refine VRs.KY (by simp [h.length]) fun j u hj => ?_
 rw [List.getElem?_drop] at hj ⊢
 exact h.get hj
theorem VR.undef : VR μ V.undef Go.undef := by
 simp only [V.undef, VR, VRs, Go.undef]
 exact ⟨#[], rfl, rfl⟩
theorem VR.cells {v : V} {w : Value} (h : VR μ v w) (ht : ∀ vs, v ≠ .tup vs) : VRs μ v.cells w.cells.toList ∧ ∀ c ∈ v.cells, c.one = true := by
 have one : ∀ {v : V} {w : Value}, v.cells = [v] → w.cells = #[w] → v.one = true → VR μ v w → VRs μ v.cells w.cells.toList ∧ ∀ c ∈ v.cells, c.one = true := by
  intro v w h1 h2 h3 h
  rw [h1, h2]
  refine ⟨?_, fun c hc => by simp at hc; subst hc; exact h3⟩
  simp only [VRs]
  exact ⟨w, [], rfl, h, rfl⟩
 cases v with
 | agg cs =>
  simp only [VR] at h
  obtain ⟨cw, rfl, h1, hc⟩ := h
  exact ⟨hc, h1⟩
 | tup vs => exact absurd rfl (ht vs)
 | int => have h' := h; simp only [VR] at h'; subst h'; exact one rfl rfl rfl h
 | bool => have h' := h; simp only [VR] at h'; subst h'; exact one rfl rfl rfl h
 | str => have h' := h; simp only [VR] at h'; subst h'; exact one rfl rfl rfl h
 | ptr => have h' := h; simp only [VR] at h'; obtain ⟨_, _, rfl⟩ := h'; exact one rfl rfl rfl h
 | Co => have h' := h; simp only [VR] at h'; subst h'; exact one rfl rfl rfl h
 | slc => have h' := h; simp only [VR] at h'; obtain ⟨_, _, rfl, _⟩ := h'; exact one rfl rfl rfl h
 | AN => have h' := h; simp only [VR] at h'; subst h'; exact one rfl rfl rfl h
 | nilm => have h' := h; simp only [VR] at h'; subst h'; exact one rfl rfl rfl h
 | map => have h' := h; simp only [VR] at h'; obtain ⟨_, _, rfl⟩ := h'; exact one rfl rfl rfl h
 | fn => have h' := h; simp only [VR] at h'; obtain ⟨_, rfl, _⟩ := h'; exact one rfl rfl rfl h
theorem VR.oneValue {v : V} {w : Value} (h : VR μ v w) (h1 : v.one = true) : (∀ cs, w ≠ .agg cs) ∧ ∀ cs, w ≠ .tuple cs := by
 cases v <;> simp only [V.one, Bool.false_eq_true] at h1 <;> simp only [VR] at h
 all_goals first
  | (subst h; exact ⟨nofun, nofun⟩)
  | (obtain ⟨_, _, rfl⟩ := h; exact ⟨nofun, nofun⟩)
  | (obtain ⟨_, rfl, _⟩ := h; exact ⟨nofun, nofun⟩)
  | (obtain ⟨_, _, rfl, _⟩ := h; exact ⟨nofun, nofun⟩)
end
def Blk.Le : Blk → Blk → Prop
 | .row cs false, b => b = .row cs false
 | .row _ true, b => (∃ cs', b = .row cs' true) ∨ b = .dead
 | .mp _, b => ∃ es', b = .mp es'
 | .dead, b => b = .dead
theorem Blk.Le.refl (b : Blk) : b.Le b := by
 cases b with
 | row cs wr => cases wr <;> simp [Blk.Le]
 | mp es => simp [Blk.Le]
 | dead => simp [Blk.Le]
theorem Blk.Le.trans {a b c : Blk} (h : a.Le b) (k : b.Le c) : a.Le c := by
 cases a with
 | row cs wr =>
  cases wr with
  | false => simp only [Blk.Le] at h; subst h; exact k
  | true =>
   simp only [Blk.Le] at h ⊢
   rcases h with ⟨cs', rfl⟩ | rfl
   ·simpa only [Blk.Le] using k
   ·simp only [Blk.Le] at k; exact .inr k
 | mp es =>
  simp only [Blk.Le] at h ⊢
  obtain ⟨es', rfl⟩ := h
  simpa only [Blk.Le] using k
 | dead => simp only [Blk.Le] at h; subst h; exact k
def Blk.own : Blk → Bool
 | .row _ true => true
 | .mp _ => true
 | _ => false
structure Sim (μ : Mu) (H : Heap) (w : World) : Prop where
 lt : ∀ b x, μ b = some x → b < H.length ∧ x.B < w.heap.size
 row : ∀ b x cs wr, μ b = some x → H[b]? = some (.row cs wr) → ∀ (i : Nat) v, cs[i]? = some v → v.one = true ∧ ∃ cv, w.cell? ⟨x.B, x.o + i, none⟩ = some cv ∧ VR μ v cv
 ext : ∀ b x cs wr, μ b = some x → H[b]? = some (.row cs wr) → cs.length ≤ x.n ∧ ∀ i, i < x.n → ∃ cv, w.cell? ⟨x.B, x.o + i, none⟩ = some cv
 free : ∀ b x cs, μ b = some x → H[b]? = some (.row cs true) → ∀ i, w.frozen? ⟨x.B, x.o + i, none⟩ = false
 sole : ∀ b x k, μ b = some x → H[b]? = some k → k.own = true → ∀ b' x' k', b' ≠ b → μ b' = some x' → H[b']? = some k' → k' ≠ .dead → x'.B ≠ x.B
 mp : ∀ b x es, μ b = some x → H[b]? = some (.mp es) → ∃ (cs : Array MapEntry) (cl : Nat), w.heap[x.B]? = some (.map cs cl) ∧ cs.toList.map (fun e => (e.key, e.val)) = es.map fun p => (Value.int .i64 p.1, Value.int .i64 p.2)
structure Tr (μ : Mu) (H : Heap) (w : World) (μ' : Mu) (H' : Heap) (w' : World) : Prop where
 ext : Mu.Le μ μ'
 fresh : ∀ b x, μ' b = some x → μ b = none → H.length ≤ b ∧ (w.heap.size ≤ x.B ∨ ∃ b0 x0 k, μ b0 = some x0 ∧ x0.B = x.B ∧ H[b0]? = some k ∧ k.own = true ∧ H'[b0]? = some .dead)
 stay : ∀ (b : Nat) k, H[b]? = some k → ∃ k', H'[b]? = some k' ∧ k.Le k'
 size : w.heap.size ≤ w'.heap.size
 frame : ∀ B, B < w.heap.size → (∀ b x k, μ b = some x → H[b]? = some k → k.own = true → x.B ≠ B) → w'.heap[B]? = w.heap[B]?
 os : w'.os = w.os
 tape : w'.tape = w.tape
 output : w'.output = w.output
theorem Tr.len {μ H w μ' H' w'} (h : Tr μ H w μ' H' w') : H.length ≤ H'.length := by
 apply Nat.le_of_not_lt
 intro hlt
 obtain ⟨k', hk', _⟩ := h.stay H'.length (H[H'.length]) (by simp [hlt])
 simp at hk'
theorem Tr.refl (μ H w) : Tr μ H w μ H w :=
 ⟨Mu.Le.refl _, fun b x h h' => by simp [h] at h', fun _ k h => ⟨k, h, Blk.Le.refl k⟩, Nat.le_refl _, fun _ _ _ => rfl, rfl, rfl, rfl⟩
theorem OT {k k' : Blk} (h : k.Le k') (ho : k'.own = true) : k.own = true := by
 cases k with
 | row cs wr =>
  cases wr with
  | false => simp only [Blk.Le] at h; subst h; simp [Blk.own] at ho
  | true => rfl
 | mp es => rfl
 | dead => simp only [Blk.Le] at h; subst h; simp [Blk.own] at ho
theorem Tr.trans {μ H w μ' H' w' μ'' H'' w''} (h : Tr μ H w μ' H' w') (k : Tr μ' H' w' μ'' H'' w'') (hl : ∀ b x, μ b = some x → b < H.length) : Tr μ H w μ'' H'' w'' := by
 refine ⟨h.ext.trans k.ext, fun b x hx hn => ?_, fun b b0 hb => ?_, Nat.le_trans h.size k.size, fun B hB hno => ?_, k.os.trans h.os, k.tape.trans h.tape, k.output.trans h.output⟩
 ·cases h' : μ' b with
  | some y =>
   obtain rfl : x = y := Option.some.inj (hx.symm.trans (k.ext _ _ h'))
   obtain ⟨h1, h2⟩ := h.fresh b x h' hn
   refine ⟨h1, h2.imp id ?_⟩
   rintro ⟨b0, x0, q, e1, e2, e3, e4, e5⟩
   obtain ⟨q', hq', hle⟩ := k.stay b0 _ e5
   simp only [Blk.Le] at hle; subst hle
   exact ⟨b0, x0, q, e1, e2, e3, e4, hq'⟩
  | none =>
   obtain ⟨h1, h2⟩ := k.fresh b x hx h'
   refine ⟨Nat.le_trans h.len h1, ?_⟩
   rcases h2 with h2 | ⟨b0, x0, q, e1, e2, e3, e4, e5⟩
   ·exact .inl (Nat.le_trans h.size h2)
   ·cases h0 : μ b0 with
    | some y =>
     obtain rfl : x0 = y := Option.some.inj (e1.symm.trans (h.ext _ _ h0))
     have hlt := hl _ _ h0
     obtain ⟨q', hq', hle⟩ := h.stay b0 H[b0] (by simp [hlt])
     obtain rfl : q = q' := Option.some.inj (e3.symm.trans hq')
     exact .inr ⟨b0, x0, H[b0], h0, e2, by simp [hlt], OT hle e4, e5⟩
    | none =>
     rcases (h.fresh b0 x0 e1 h0).2 with h3 | ⟨b1, x1, q1, f1, f2, f3, f4, f5⟩
     ·exact .inl (by omega)
     ·obtain ⟨q', hq', hle⟩ := k.stay b1 _ f5
      simp only [Blk.Le] at hle; subst hle
      exact .inr ⟨b1, x1, q1, f1, f2.trans e2, f3, f4, hq'⟩
 ·obtain ⟨b1, h1, l1⟩ := h.stay b b0 hb
  obtain ⟨b2, h2, l2⟩ := k.stay b b1 h1
  exact ⟨b2, h2, l1.trans l2⟩
 ·rw [k.frame B (Nat.lt_of_lt_of_le hB h.size) ?_, h.frame B hB hno]
  intro b x q hx hq ho heq
  cases h0 : μ b with
  | some y =>
   obtain rfl : x = y := Option.some.inj (hx.symm.trans (h.ext _ _ h0))
   have hlt := hl _ _ h0
   obtain ⟨q', hq', hle⟩ := h.stay b H[b] (by simp [hlt])
   obtain rfl : q = q' := Option.some.inj (hq.symm.trans hq')
   exact hno b x H[b] h0 (by simp [hlt]) (OT hle ho) heq
  | none =>
   rcases (h.fresh b x hx h0).2 with h3 | ⟨b1, x1, q1, f1, f2, f3, f4, f5⟩
   ·omega
   ·exact hno b1 x1 q1 f1 f3 f4 (f2.trans heq)
end Go.Proofs.YtncjbjlmgnjhiaaGreat.VM
namespace Go.Proofs.YtncjbjlmgnjhiaaGreat.VM
open Go
set_option linter.unusedSimpArgs false
set_option linter.unusedVariables false
set_option linter.unusedSectionVars false
theorem GZ (B o n : Nat) : (⟨B, o, none⟩ : Addr).add n = ⟨B, o + n, none⟩ := by
 unfold Addr.add; split
 ·subst_vars; rfl
 ·rfl
theorem eU {μ : Mu} {v : V} {w : Value} (h : VR μ v w) (h1 : v.one = true) : w.oneCell' = true := by
 have h2 := VR.oneValue h h1
 cases w <;> first | rfl | (exact absurd rfl (h2.1 _)) | (exact absurd rfl (h2.2 _))
theorem KE {w w' : World} (h : w'.heap = w.heap) (a : Addr) : w'.cell? a = w.cell? a := by simp [World.cell?, h]
theorem Qq {w w' : World} (h : w'.heap = w.heap) (a : Addr) : w'.frozen? a = w.frozen? a := by simp [World.frozen?, h]
theorem Sim.of_heap {μ : Mu} {H : Heap} {w w' : World} (s : Sim μ H w) (h : w'.heap = w.heap) : Sim μ H w' :=
 ⟨fun b x hx => by rw [h]; exact s.lt b x hx,
  fun b x cs wr hx hb i v hi => by rw [KE h]; exact s.row b x cs wr hx hb i v hi,
  fun b x cs wr hx hb => by simp only [KE h]; exact s.ext b x cs wr hx hb,
  fun b x cs hx hb i => by rw [Qq h]; exact s.free b x cs hx hb i,
  s.sole, fun b x es hx hb => by rw [h]; exact s.mp b x es hx hb⟩
theorem Tr.of_heap {μ : Mu} {H : Heap} {w w' : World} (h : w'.heap = w.heap) (ho : w'.os = w.os) (ht : w'.tape = w.tape) (hp : w'.output = w.output) : Tr μ H w μ H w' :=
 ⟨Mu.Le.refl _, fun b x h h' => by simp [h] at h', fun _ k h => ⟨k, h, Blk.Le.refl k⟩, by rw [h]; exact Nat.le_refl _, fun B _ _ => by rw [h], ho, ht, hp⟩
def Mu.put (μ : Mu) (b : Nat) (x : Loc) : Mu := fun b' => if b' = b then some x else μ b'
theorem Mu.De (μ : Mu) (b : Nat) (x : Loc) : μ.put b x b = some x := by simp [Mu.put]
theorem Mu.Kc {μ : Mu} {b b' : Nat} (x : Loc) (h : b' ≠ b) : μ.put b x b' = μ b' := by simp [Mu.put, h]
theorem Mu.KV {μ : Mu} {b : Nat} (x : Loc) (h : μ b = none) : Mu.Le μ (μ.put b x) := fun b' y hy => by
 have : b' ≠ b := fun e => by subst e; simp [h] at hy
 rw [Mu.Kc x this]; exact hy
theorem Sim.Fl {μ : Mu} {H : Heap} {w : World} (s : Sim μ H w) : μ H.length = none := by
 cases h : μ H.length with
 | none => rfl
 | some x => exact absurd (s.lt _ _ h).1 (Nat.lt_irrefl _)
theorem ER {H : Heap} {k : Blk} {b : Nat} {k' : Blk} (h : (H ++ [k])[b]? = some k') : (b = H.length ∧ k' = k) ∨ (b < H.length ∧ H[b]? = some k') := by
 rw [List.getElem?_append] at h
 split at h
 ·rename_i hb; exact .inr ⟨hb, h⟩
 ·rename_i hb
  have : b - H.length = 0 := by
   apply Nat.eq_zero_of_le_zero
   apply Nat.le_of_not_lt
   intro hlt
   rw [List.getElem?_eq_none (by simp; omega)] at h
   cases h
  rw [this] at h
  simp at h
  exact .inl ⟨by omega, h.symm⟩
theorem QM (H : Heap) (k : Blk) (b : Nat) (q : Blk) (h : H[b]? = some q) : ∃ k', (H ++ [k])[b]? = some k' ∧ q.Le k' := by
 have hlt : b < H.length := (List.getElem?_eq_some_iff.1 h).1
 exact ⟨q, by rw [List.getElem?_append_left hlt]; exact h, Blk.Le.refl q⟩
theorem WJ {μ : Mu} {H : Heap} {w : World} (s : Sim μ H w) (cs : List V) (wr : Bool) (n : Nat) (cvs : Array Value) (e : TypeId) (fr : Nat × Nat)
  (hn : cs.length ≤ n) (hn' : n ≤ cvs.size)
  (hc : ∀ (i : Nat) v, cs[i]? = some v → v.one = true ∧ ∃ cv, cvs[i]? = some cv ∧ VR μ v cv) (hf : wr = true → ∀ i, (decide (fr.1 ≤ i) && decide (i < fr.2)) = false) :
  Sim (μ.put H.length ⟨w.heap.size, 0, n⟩) (H ++ [.row cs wr]) (w.alloc (.cells cvs e fr)) ∧
  Tr μ H w (μ.put H.length ⟨w.heap.size, 0, n⟩) (H ++ [.row cs wr]) (w.alloc (.cells cvs e fr)) := by
 have hnone := s.Fl
 have hle : Mu.Le μ (μ.put H.length ⟨w.heap.size, 0, n⟩) := Mu.KV _ hnone
 have hnew : ∀ i, (w.alloc (.cells cvs e fr)).cell? ⟨w.heap.size, i, none⟩ = cvs[i]? := fun i => by show (match (w.heap.push (.cells cvs e fr))[w.heap.size]? with | some (.cells c _ _) => _ | _ => _) = _; simp
 have hfr : wr = true → ∀ i, (w.alloc (.cells cvs e fr)).frozen? ⟨w.heap.size, i, none⟩ = false := fun hi i => by
  have := hf hi i
  obtain ⟨lo, hi'⟩ := fr
  show (match (w.heap.push (.cells cvs e (lo, hi')))[w.heap.size]? with | some (.cells _ _ (lo, hi)) => decide (lo ≤ i) && decide (i < hi) | _ => false) = false
  simpa using this
 have old : ∀ b x, μ b = some x → ∀ i, (w.alloc (.cells cvs e fr)).cell? ⟨x.B, x.o + i, none⟩ = w.cell? ⟨x.B, x.o + i, none⟩ := fun b x hx i =>
  World.cell?_alloc_lt w _ _ (s.lt b x hx).2
 have oldf : ∀ b x, μ b = some x → ∀ i, (w.alloc (.cells cvs e fr)).frozen? ⟨x.B, x.o + i, none⟩ = w.frozen? ⟨x.B, x.o + i, none⟩ := fun b x hx i =>
  World.frozen?_alloc_old w _ _ (Nat.ne_of_lt (s.lt b x hx).2)
 have split : ∀ b x, μ.put H.length ⟨w.heap.size, 0, n⟩ b = some x → (b = H.length ∧ x = ⟨w.heap.size, 0, n⟩) ∨ (b ≠ H.length ∧ μ b = some x) := fun b x hx => by
  by_cases hb : b = H.length
  ·subst hb; rw [Mu.De] at hx; exact .inl ⟨rfl, (Option.some.inj hx).symm⟩
  ·rw [Mu.Kc _ hb] at hx; exact .inr ⟨hb, hx⟩
 have oldk : ∀ b k, b ≠ H.length → (H ++ [Blk.row cs wr])[b]? = some k → H[b]? = some k := fun b k hb hk => by
  rcases ER hk with ⟨h1, _⟩ | ⟨_, h2⟩
  ·exact absurd h1 hb
  ·exact h2
 have newk : ∀ k, (H ++ [Blk.row cs wr])[H.length]? = some k → k = .row cs wr := fun k hk => by
  rcases ER hk with ⟨_, h2⟩ | ⟨h1, _⟩
  ·exact h2
  ·exact absurd h1 (Nat.lt_irrefl _)
 refine ⟨⟨?_, ?_, ?_, ?_, ?_, ?_⟩, ?_⟩
 ·intro b x hx
  rcases split b x hx with ⟨rfl, rfl⟩ | ⟨_, h⟩
  ·simp
  ·have := s.lt b x h; simp; omega
 ·intro b x cs' wr' hx hb i v hi
  rcases split b x hx with ⟨rfl, rfl⟩ | ⟨hne, h⟩
  ·have := newk _ hb
   injection this with e1 e2
   subst e1
   obtain ⟨h1, cv, h2, h3⟩ := hc i v hi
   exact ⟨h1, cv, by simp only [Nat.zero_add]; rw [hnew]; exact h2, h3.mono hle⟩
  ·obtain ⟨h1, cv, h2, h3⟩ := s.row b x cs' wr' h (oldk _ _ hne hb) i v hi
   exact ⟨h1, cv, by rw [old b x h]; exact h2, h3.mono hle⟩
 ·intro b x cs' wr' hx hb
  rcases split b x hx with ⟨rfl, rfl⟩ | ⟨hne, h⟩
  ·have := newk _ hb
   injection this with e1 e2
   subst e1
   refine ⟨hn, fun i hi => ?_⟩
   simp only [Nat.zero_add]
   rw [hnew]
   have : i < cvs.size := Nat.lt_of_lt_of_le hi hn'
   exact ⟨cvs[i], by simp [this]⟩
  ·obtain ⟨h2, h3⟩ := s.ext b x cs' wr' h (oldk _ _ hne hb)
   exact ⟨h2, fun i hi => by rw [old b x h]; exact h3 i hi⟩
 ·intro b x cs' hx hb i
  rcases split b x hx with ⟨rfl, rfl⟩ | ⟨hne, h⟩
  ·have := newk _ hb
   injection this with e1 e2
   simp only [Nat.zero_add]; exact hfr e2.symm i
  ·rw [oldf b x h]; exact s.free b x cs' h (oldk _ _ hne hb) i
 ·intro b x k hx hb ho b' x' k' hne' hx' hb' hd
  rcases split b x hx with ⟨rfl, rfl⟩ | ⟨hne, h⟩ <;> rcases split b' x' hx' with ⟨rfl, rfl⟩ | ⟨hne2, h'⟩
  ·exact absurd rfl hne'
  ·exact Nat.ne_of_lt (s.lt b' x' h').2
  ·exact fun e => Nat.ne_of_lt (s.lt b x h).2 e.symm
  ·exact s.sole b x k h (oldk _ _ hne hb) ho b' x' k' hne' h' (oldk _ _ hne2 hb') hd
 ·intro b x es hx hb
  rcases split b x hx with ⟨rfl, rfl⟩ | ⟨hne, h⟩
  ·have := newk _ hb; cases this
  ·obtain ⟨m, cl, h1, h2⟩ := s.mp b x es h (oldk _ _ hne hb)
   refine ⟨m, cl, ?_, h2⟩
   simp only [World.alloc]
   rw [Array.getElem?_push, if_neg (Nat.ne_of_lt (s.lt b x h).2)]
   exact h1
 ·refine ⟨hle, fun b x hx hno => ?_, QM H _, by simp, fun B hB _ => ?_, rfl, rfl, rfl⟩
  ·rcases split b x hx with ⟨rfl, rfl⟩ | ⟨_, h⟩
   ·exact ⟨Nat.le_refl _, .inl (Nat.le_refl _)⟩
   ·rw [h] at hno; cases hno
  ·simp only [World.alloc]
   rw [Array.getElem?_push, if_neg (Nat.ne_of_lt hB)]
theorem DV {H : Heap} {b b' : Nat} {k k' : Blk} (h : (H.set b k)[b']? = some k') : (b' = b ∧ k' = k) ∨ (b' ≠ b ∧ H[b']? = some k') := by
 rw [List.getElem?_set] at h
 by_cases hb : b = b'
 ·subst hb
  simp only [if_true] at h
  split at h
  ·simp at h; exact .inl ⟨rfl, h.symm⟩
  ·cases h
 ·simp only [hb, if_false] at h
  exact .inr ⟨fun e => hb e.symm, h⟩
theorem NV {H : Heap} {b : Nat} {q : Blk} (k : Blk) (h : H[b]? = some q) : (H.set b k)[b]? = some k := by
 have : b < H.length := (List.getElem?_eq_some_iff.1 h).1
 simp [this]
theorem JX {H : Heap} {b : Nat} {q k : Blk} (h : H[b]? = some q) (hle : q.Le k) (b' : Nat) (q' : Blk) (h' : H[b']? = some q') : ∃ k', (H.set b k)[b']? = some k' ∧ q'.Le k' := by
 by_cases hb : b' = b
 ·subst hb
  obtain rfl : q = q' := Option.some.inj (h.symm.trans h')
  exact ⟨k, NV k h, hle⟩
 ·exact ⟨q', by rw [List.getElem?_set_ne (fun e => hb e.symm)]; exact h', Blk.Le.refl _⟩
theorem bZ {μ : Mu} {H : Heap} {w : World} (s : Sim μ H w) {b : Nat} {x : Loc} {cs : List V} {i : Nat} (hx : μ b = some x) (hb : H[b]? = some (.row cs true)) (hi : i < cs.length)
  {v : V} {cv : Value} (hv : VR μ v cv) (h1 : v.one = true) :
  (∃ u, w.cell? ⟨x.B, x.o + i, none⟩ = some u) ∧ w.frozen? ⟨x.B, x.o + i, none⟩ = false ∧
  Sim μ (H.set b (.row (cs.set i v) true)) (w.setCell ⟨x.B, x.o + i, none⟩ cv) ∧ Tr μ H w μ (H.set b (.row (cs.set i v) true)) (w.setCell ⟨x.B, x.o + i, none⟩ cv) := by
 obtain ⟨e2, e3⟩ := s.ext b x cs true hx hb
 obtain ⟨u, hu⟩ := e3 i (Nat.lt_of_lt_of_le hi e2)
 refine ⟨⟨u, hu⟩, s.free b x cs hx hb i, ⟨?_, ?_, ?_, ?_, ?_, ?_⟩, ?_⟩
 ·intro b' x' hx'; have := s.lt b' x' hx'; simpa using this
 ·intro b' x' cs' wr' hx' hb' j v' hj
  rcases DV hb' with ⟨rfl, hk⟩ | ⟨hne, hk⟩
  ·injection hk with k1 k2
   subst k1 k2
   obtain rfl : x = x' := Option.some.inj (hx.symm.trans hx')
   rw [List.getElem?_set] at hj
   by_cases hij : i = j
   ·subst hij
    simp [hi] at hj
    subst hj
    exact ⟨h1, cv, World.cell?_setCell_same w _ _ hu, hv⟩
   ·simp only [hij, if_false] at hj
    obtain ⟨q1, q2, q3, q4⟩ := s.row _ x cs true hx hb j v' hj
    exact ⟨q1, q2, by rw [World.cell?_setCell_other w _ _ _ (fun e => hij (by injection e with _ e2 _; omega))]; exact q3, q4⟩
  ·obtain ⟨q1, q2, q3, q4⟩ := s.row b' x' cs' wr' hx' hk j v' hj
   have hB := s.sole b x _ hx hb rfl b' x' _ hne hx' hk (by simp)
   exact ⟨q1, q2, by rw [World.cell?_setCell_other w _ _ _ (fun e => hB (by injection e with e1 _ _; exact e1.symm))]; exact q3, q4⟩
 ·intro b' x' cs' wr' hx' hb'
  have Yo : ∀ a, (∃ cv, w.cell? a = some cv) → ∃ cv', (w.setCell ⟨x.B, x.o + i, none⟩ cv).cell? a = some cv' := fun a ⟨q, hq⟩ => by
   by_cases ha : (⟨x.B, x.o + i, none⟩ : Addr) = a
   ·subst ha; exact ⟨cv, World.cell?_setCell_same w _ _ hu⟩
   ·exact ⟨q, by rw [World.cell?_setCell_other w _ _ _ ha]; exact hq⟩
  rcases DV hb' with ⟨rfl, hk⟩ | ⟨hne, hk⟩
  ·injection hk with k1 k2
   subst k1 k2
   obtain rfl : x = x' := Option.some.inj (hx.symm.trans hx')
   exact ⟨by simpa using e2, fun j hj => Yo _ (e3 j hj)⟩
  ·obtain ⟨q2, q3⟩ := s.ext b' x' cs' wr' hx' hk
   exact ⟨q2, fun j hj => Yo _ (q3 j hj)⟩
 ·intro b' x' cs' hx' hb' j
  rw [World.frozen?_setCell]
  rcases DV hb' with ⟨rfl, hk⟩ | ⟨hne, hk⟩
  ·obtain rfl : x = x' := Option.some.inj (hx.symm.trans hx')
   exact s.free _ x cs hx hb j
  ·exact s.free b' x' cs' hx' hk j
 ·intro b1 x1 k1 hx1 hb1 ho b2 x2 k2 hne hx2 hb2 hd
  rcases DV hb1 with ⟨rfl, hk⟩ | ⟨hne1, hk⟩ <;> rcases DV hb2 with ⟨rfl, hk'⟩ | ⟨hne2, hk'⟩
  ·exact absurd rfl hne
  ·exact s.sole b1 x1 _ hx1 hb rfl b2 x2 k2 hne hx2 hk' hd
  ·exact s.sole b1 x1 k1 hx1 hk ho b2 x2 _ hne hx2 hb (by simp)
  ·exact s.sole b1 x1 k1 hx1 hk ho b2 x2 k2 hne hx2 hk' hd
 ·intro b' x' es hx' hb'
  rcases DV hb' with ⟨rfl, hk⟩ | ⟨hne, hk⟩
  ·cases hk
  ·obtain ⟨m, cl, q1, q2⟩ := s.mp b' x' es hx' hk
   have hB := s.sole b x _ hx hb rfl b' x' _ hne hx' hk (by simp)
   exact ⟨m, cl, by simp only [World.setCell, Array.getElem?_modify]; rw [if_neg (fun e => hB e.symm)]; exact q1, q2⟩
 ·refine ⟨Mu.Le.refl _, fun b x h h' => by simp [h] at h', JX hb (by simp [Blk.Le]), by simp, fun B hB hno => ?_, rfl, rfl, rfl⟩
  have := hno b x _ hx hb rfl
  simp only [World.setCell, Array.getElem?_modify]
  rw [if_neg this]
def setL {α : Type} : List α → Nat → List α → List α
 | cs, _, [] => cs
 | cs, i, v :: vs => setL (cs.set i v) (i + 1) vs
theorem Ck {α : Type} (cs : List α) (i : Nat) (vs : List α) : (setL cs i vs).length = cs.length := by
 induction vs generalizing cs i with
 | nil => rfl
 | cons v vs ih => simp only [setL]; rw [ih]; simp
theorem set_set (H : Heap) (b : Nat) (k k' : Blk) : (H.set b k).set b k' = H.set b k' := by
 rw [List.set_set]
theorem Lc (P : Program) {w : World} {a : Addr} {v u : Value} (hv : v.oneCell' = true) (hu : w.cell? a = some u) (hf : w.frozen? a = false) : (store a v).run P w = .ok () (w.setCell a v) := by
 rw [run_store P w a v _ hv]; simp [hu, hf]
theorem Ot (P : Program) {μ : Mu} {b : Nat} {x : Loc} {off : Nat} (hx : μ b = some x) : ∀ (vs : List V) (ws : List Value) (j : Nat) (cs : List V) (H : Heap) (w : World), Sim μ H w →
  H[b]? = some (.row cs true) → off + j + vs.length ≤ cs.length → VRs μ vs ws → (∀ v ∈ vs, v.one = true) →
  ∃ w', (storeCells ⟨x.B, x.o + off, none⟩ ws j).run P w = .ok () w' ∧ Sim μ (H.set b (.row (setL cs (off + j) vs) true)) w' ∧ Tr μ H w μ (H.set b (.row (setL cs (off + j) vs) true)) w' := by
 intro vs
 induction vs with
 | nil =>
  intro ws j cs H w s hb _ hr _
  simp only [VRs] at hr
  subst hr
  have : H.set b (.row (setL cs (off + j) []) true) = H := by
   simp only [setL]
   have hlt : b < H.length := (List.getElem?_eq_some_iff.1 hb).1
   have hg : H[b] = .row cs true := (List.getElem?_eq_some_iff.1 hb).2
   rw [← hg, List.set_getElem_self]
  rw [this]
  exact ⟨w, rfl, s, Tr.refl _ _ _⟩
 | cons v vs ih =>
  intro ws j cs H w s hb hl hr h1
  simp only [VRs] at hr
  obtain ⟨cv, ws', rfl, hv, hr'⟩ := hr
  simp only [List.length_cons] at hl
  obtain ⟨⟨u, hu⟩, hf, s', t'⟩ := bZ s hx hb (show off + j < cs.length by omega) hv (h1 v (by simp))
  have e : x.o + (off + j) = x.o + off + j := by omega
  rw [e] at hu hf s' t'
  obtain ⟨w', hrun, s'', t''⟩ := ih ws' (j + 1) (cs.set (off + j) v) _ _ s' (NV _ hb) (by simp; omega) hr' (fun u hu => h1 u (by simp [hu]))
  rw [set_set] at s'' t''
  refine ⟨w', ?_, by simpa only [setL, Nat.add_assoc] using s'', ?_⟩
  ·simp only [storeCells, Sem.run_bind, GZ]
   rw [Lc P (eU hv (h1 v (by simp))) hu hf]
   exact hrun
  ·have := Tr.trans t' t'' (fun b x h => (s.lt b x h).1)
   simpa only [setL, Nat.add_assoc] using this
theorem RZ (P : Program) {μ : Mu} {b : Nat} {x : Loc} {off : Nat} {wr : Bool} {cs : List V} {H : Heap} {w : World} (s : Sim μ H w) (hx : μ b = some x) (hb : H[b]? = some (.row cs wr)) : ∀ (n i : Nat) (acc : Array Value),
  off + i + n ≤ cs.length → ∃ ws : List Value, (∀ w', w'.heap = w.heap → (loadCellsFrom ⟨x.B, x.o + off, none⟩ i n acc).run P w' = .ok (acc ++ ws.toArray) w') ∧ VRs μ ((cs.drop (off + i)).take n) ws ∧ ∀ v ∈ (cs.drop (off + i)).take n, v.one = true := by
 intro n
 induction n with
 | zero => intro i acc _; exact ⟨[], fun w' _ => by simp [loadCellsFrom], by simp [VRs], by simp⟩
 | succ n ih =>
  intro i acc hl
  have hlt : off + i < cs.length := by omega
  have hg : cs[off + i]? = some cs[off + i] := by simp [hlt]
  obtain ⟨h1, cv, h2, h3⟩ := s.row b x cs wr hx hb (off + i) _ hg
  obtain ⟨ws, k1, k2, k3⟩ := ih (i + 1) (acc.push cv) (by omega)
  have hd : (cs.drop (off + i)).take (n + 1) = cs[off + i] :: (cs.drop (off + (i + 1))).take n := by
   rw [List.drop_eq_getElem_cons hlt]; rfl
  refine ⟨cv :: ws, fun w' hw => ?_, by rw [hd]; simp only [VRs]; exact ⟨cv, ws, rfl, h3, k2⟩, by
   rw [hd]; intro v hv; simp only [List.mem_cons] at hv; rcases hv with rfl | hv
   ·exact h1
   ·exact k3 v hv⟩
  simp only [loadCellsFrom, Sem.run_bind, GZ, run_load]
  have e : x.o + off + i = x.o + (off + i) := by omega
  rw [e, KE hw, h2]
  simp only [Result.andThen_ok]
  rw [k1 w' hw]
  simp
def Heap.loadN (h : Heap) (b off n : Nat) : Option (List V) :=
 match h[b]? with
 | some (.row cs _) => if off + n ≤ cs.length then some ((cs.drop off).take n) else none
 | _ => none
def Heap.storeN (h : Heap) (b off : Nat) (vs : List V) : Option Heap :=
 match h[b]? with
 | some (.row cs true) => if off + vs.length ≤ cs.length then some (h.set b (.row (setL cs off vs) true)) else none
 | _ => none
theorem KA (P : Program) {μ : Mu} {H : Heap} {w : World} (s : Sim μ H w) {b : Nat} {x : Loc} {off n : Nat} {vs : List V} (hx : μ b = some x) (h : H.loadN b off n = some vs) :
  ∃ ws : Array Value, (∀ w', w'.heap = w.heap → (loadCells ⟨x.B, x.o + off, none⟩ n).run P w' = .ok ws w') ∧ VRs μ vs ws.toList ∧ (∀ v ∈ vs, v.one = true) ∧ vs.length = n := by
 unfold Heap.loadN at h
 split at h
 ·rename_i cs wr hb
  split at h
  ·rename_i hl
   simp only [Option.some.injEq] at h
   subst h
   obtain ⟨ws, h1, h2, h3⟩ := RZ P (off := off) s hx hb n 0 #[] (by omega)
   refine ⟨ws.toArray, fun w' hw => by simpa [loadCells] using h1 w' hw, by simpa using h2, by simpa using h3, by simp; omega⟩
  ·cases h
 ·cases h
theorem Io (P : Program) {μ : Mu} {H H' : Heap} {w : World} (s : Sim μ H w) {b : Nat} {x : Loc} {off : Nat} {vs : List V} {ws : List Value} (hx : μ b = some x) (h : H.storeN b off vs = some H')
  (hr : VRs μ vs ws) (h1 : ∀ v ∈ vs, v.one = true) :
  ∃ w', (storeCells ⟨x.B, x.o + off, none⟩ ws 0).run P w = .ok () w' ∧ Sim μ H' w' ∧ Tr μ H w μ H' w' := by
 unfold Heap.storeN at h
 split at h
 ·rename_i cs hb
  split at h
  ·rename_i hl
   simp only [Option.some.injEq] at h
   subst h
   exact Ot P hx vs ws 0 cs H w s hb (by omega) hr h1
  ·cases h
 ·cases h
theorem Oo {μ : Mu} {H : Heap} {w : World} (s : Sim μ H w) {b : Nat} {cs : List V} (hb : H[b]? = some (.row cs true)) : Sim μ (H.set b .dead) w ∧ Tr μ H w μ (H.set b .dead) w := by
 have old : ∀ b' k, (H.set b .dead)[b']? = some k → k ≠ Blk.dead → H[b']? = some k := fun b' k h hd => by
  rcases DV h with ⟨_, rfl⟩ | ⟨_, h'⟩
  ·exact absurd rfl hd
  ·exact h'
 refine ⟨⟨fun b' x' h => by simpa using s.lt b' x' h, ?_, ?_, ?_, ?_, ?_⟩, ⟨Mu.Le.refl _, fun b x h h' => by simp [h] at h', JX hb (by simp [Blk.Le]), Nat.le_refl _, fun _ _ _ => rfl, rfl, rfl, rfl⟩⟩
 ·intro b' x' cs' wr' hx' hb'; exact s.row b' x' cs' wr' hx' (old _ _ hb' (by simp))
 ·intro b' x' cs' wr' hx' hb'; exact s.ext b' x' cs' wr' hx' (old _ _ hb' (by simp))
 ·intro b' x' cs' hx' hb'; exact s.free b' x' cs' hx' (old _ _ hb' (by simp))
 ·intro b1 x1 k1 hx1 hb1 ho b2 x2 k2 hne hx2 hb2 hd
  exact s.sole b1 x1 k1 hx1 (old _ _ hb1 (fun e => by subst e; simp [Blk.own] at ho)) ho b2 x2 k2 hne hx2 (old _ _ hb2 hd) hd
 ·intro b' x' es hx' hb'; exact s.mp b' x' es hx' (old _ _ hb' (by simp))
end Go.Proofs.YtncjbjlmgnjhiaaGreat.VM
namespace Go.Proofs.YtncjbjlmgnjhiaaGreat.VM
open Go
set_option linter.unusedSimpArgs false
set_option linter.unusedVariables false
inductive TK where
 | bool
 | int (k : IntKind)
 | str
 | strct (fs : List (Nat × Nat))
 | arr (n e : Nat)
 | slice (e : Nat)
 | ptr
 | map
 | other
 deriving Inhabited
inductive CK where
 | int | bool | str
 deriving DecidableEq, Inhabited
structure TI where
 k : TK
 size : Nat
 bytes : Nat
 zero : List V
 cmp : List CK := []
 deriving Inhabited
abbrev Tab := Nat → Option TI
def TK.agg : TK → Bool
 | .strct _ | .arr _ _ => true
 | _ => false
mutual
def V.of : Value → Option V
 | .int k n => some (.int k n)
 | .bool b => some (.bool b)
 | .string s => some (.str s)
 | .pointer none => some .Co
 | .slice none 0 0 => some .AN
 | .map none => some .nilm
 | .agg ⟨cs⟩ => (V.ofs cs).map .agg
 | _ => none
def V.ofs : List Value → Option (List V)
 | [] => some []
 | v :: vs => match V.of v, V.ofs vs with
  | some u, some us => if u.one then some (u :: us) else none
  | _, _ => none
end
abbrev Env := List V
def Env.ev (e : Env) : Operand → Option V
 | .tmp t => e[t]?
 | .const v => V.of v
 | .func f => some (.fn f [])
 | .global _ => none
def evs (ρ : Operand → Option V) : List Operand → Option (List V)
 | [] => some []
 | x :: xs => match ρ x, evs ρ xs with
  | some v, some vs => some (v :: vs)
  | _, _ => none
def intBin (op : BinOp) (k : IntKind) (a b : Int) : Option V :=
 match op with
 | .add => some (.int k (k.wrap (a + b)))
 | .sub => some (.int k (k.wrap (a - b)))
 | .mul => some (.int k (k.wrap (a * b)))
 | .quo => if b = 0 then none else some (.int k (k.wrap (a.tdiv b)))
 | .rem => if b = 0 then none else some (.int k (a.tmod b))
 | .and => some (.int k (k.wrap (BitVec.ofInt k.bits a &&& BitVec.ofInt k.bits b).toNat))
 | .or => some (.int k (k.wrap (BitVec.ofInt k.bits a ||| BitVec.ofInt k.bits b).toNat))
 | .xor => some (.int k (k.wrap (BitVec.ofInt k.bits a ^^^ BitVec.ofInt k.bits b).toNat))
 | .eql => some (.bool (a == b))
 | .neq => some (.bool (a != b))
 | .lss => some (.bool (decide (a < b)))
 | .leq => some (.bool (decide (a ≤ b)))
 | .gtr => some (.bool (decide (a > b)))
 | .geq => some (.bool (decide (a ≥ b)))
 | _ => none
def shiftBin (op : BinOp) (k : IntKind) (a b : Int) : Option V :=
 if b < 0 then none else
 match op with
 | .shl => some (.int k (k.wrap (a * 2 ^ (min b.toNat k.bits))))
 | .shr => some (.int k (a.fdiv (2 ^ (min b.toNat k.bits))))
 | _ => none
def strBin (op : BinOp) (a b : ByteArray) : Option V :=
 match op with
 | .add => if ((a.size + b.size : Nat) : Int) > IntKind.i64.max then none else some (.str (a ++ b))
 | .eql => some (.bool (a.toList == b.toList))
 | .neq => some (.bool !(a.toList == b.toList))
 | _ => none
def V.eq1 : CK → V → V → Option Bool
 | .int, .int k a, .int k' b => if k = k' then some (a == b) else none
 | .bool, .bool a, .bool b => some (a == b)
 | .str, .str a, .str b => some (a.toList == b.toList)
 | _, _, _ => none
def eqs : List CK → List V → List V → Option Bool
 | [], [], [] => some true
 | k :: ks, x :: xs, y :: ys => match V.eq1 k x y, eqs ks xs ys with
  | some a, some b => some (a && b)
  | _, _ => none
 | _, _, _ => none
def eqlOr (op : BinOp) (b : Option Bool) : Option V :=
 match op with
 | .eql => b.map .bool
 | .neq => b.map fun b => .bool !b
 | _ => none
def vbin (T : Tab) (op : BinOp) (t : Nat) (x y : V) : Option V :=
 match x, y with
 | .int k a, .int k' b =>
  match op with
  | .shl | .shr => shiftBin op k a b
  | _ => if k = k' then intBin op k a b else none
 | .str a, .str b => strBin op a b
 | .bool a, .bool b => match T t with
  | some { k := .bool, .. } => eqlOr op (some (a == b))
  | _ => none
 | .agg xs, .agg ys => match T t with
  | some { cmp := k :: ks, .. } => eqlOr op (eqs (k :: ks) xs ys)
  | _ => none
 | .AN, .AN => match T t with
  | some { k := .slice _, .. } => eqlOr op (some true)
  | _ => none
 | .slc .., .AN => match T t with
  | some { k := .slice _, .. } => eqlOr op (some false)
  | _ => none
 | _, _ => none
def vun (op : UnOp) (x : V) : Option V :=
 match op, x with
 | .neg, .int k n => some (.int k (k.wrap (0 - n)))
 | .xor, .int k n => some (.int k (k.wrap (BitVec.ofInt k.bits (if k.signed then -1 else k.max) ^^^ BitVec.ofInt k.bits n).toNat))
 | .not, .bool b => some (.bool !b)
 | _, _ => none
def V.isTup : V → Bool
 | .tup _ => true
 | _ => false
def fillV (place : Nat → Option (Nat × Nat)) (cs : List V) : List (Nat × V) → Option (List V)
 | [] => some cs
 | (i, v) :: rest =>
  match place i with
  | none => none
  | some (off, size) => if v.isTup = false ∧ v.cells.length = size ∧ off + size ≤ cs.length then fillV place (setL cs off v.cells) rest else none
def evParts (ρ : Operand → Option V) : List (Nat × Operand) → Option (List (Nat × V))
 | [] => some []
 | (i, x) :: xs => match ρ x, evParts ρ xs with
  | some v, some vs => some ((i, v) :: vs)
  | _, _ => none
def structPlace (T : Tab) (fs : List (Nat × Nat)) (i : Nat) : Option (Nat × Nat) :=
 match fs[i]? with
 | some (t, off) => match T t with
  | some f => some (off, f.size)
  | none => none
 | none => none
def FG (size len : Nat) (i : Nat) : Option (Nat × Nat) := some (i * size, size)
def V.asIdx : V → Option Int
 | .int _ i => some i
 | _ => none
def boundV (x : Option V) (dflt most : Nat) : Option Nat :=
 match x with
 | none => some dflt
 | some (.int _ i) => if 0 ≤ i ∧ i ≤ most then some i.toNat else none
 | _ => none
def optEv (ρ : Operand → Option V) : Option Operand → Option (Option V)
 | none => some none
 | some x => (ρ x).map some
def sliceV (size : Nat) (x : V) (lo hi mx : Option V) : Option V :=
 if (mx.isSome && hi.isNone) = true then none else
 match x with
 | .AN => match boundV mx 0 0, boundV hi 0 0, boundV lo 0 0 with
  | some 0, some 0, some 0 => some .AN
  | _, _, _ => none
 | .slc b off len cap t sz =>
  if sz ≠ size then none else
  match boundV mx cap cap with
  | some m => match (if mx.isSome then boundV hi len m else boundV hi len cap) with
   | some h => match boundV lo 0 h with
    | some l => some (.slc b (off + l * size) (h - l) (m - l) (t || mx.isSome) sz)
    | none => none
   | none => none
  | none => none
 | _ => none
def Rb (s : ByteArray) (lo hi : Option V) : Option V :=
 match boundV hi s.size s.size with
 | some h => match boundV lo 0 h with
  | some l => some (.str (s.extract l h))
  | none => none
 | none => none
def builtinP (T : Tab) (b : Builtin) (ts : List Nat) (xs : List V) : Option V :=
 match b, ts, xs with
 | .len, [t], [.str s] => match T t with
  | some { k := .str, .. } => some (.int .i64 s.size)
  | _ => none
 | .len, [t], [.slc _ _ n _ _ _] => match T t with
  | some { k := .slice _, .. } => some (.int .i64 n)
  | _ => none
 | .len, [t], [.AN] => match T t with
  | some { k := .slice _, .. } => some (.int .i64 0)
  | _ => none
 | .cap, [t], [.slc _ _ _ n true _] => match T t with
  | some { k := .slice _, .. } => some (.int .i64 n)
  | _ => none
 | .cap, [t], [.AN] => match T t with
  | some { k := .slice _, .. } => some (.int .i64 0)
  | _ => none
 | .min, _, [.int k x, .int _ y] => some (.int k (if y < x then y else x))
 | .max, _, [.int k x, .int _ y] => some (.int k (if y > x then y else x))
 | _, _, _ => none
def pureOp (T : Tab) (ρ : Operand → Option V) : Op → Option V
 | .move x => ρ x
 | .assign x => ρ x
 | .pick c a b => match ρ c, ρ a, ρ b with
  | some (.bool c), some x, some y => some (if c then x else y)
  | _, _, _ => none
 | .build t parts => match T t, evParts ρ parts.toList with
  | some { k := .strct fs, zero := z, .. }, some ps => (fillV (structPlace T fs) z ps).map .agg
  | _, _ => none
 | .nilCheck x => match ρ x with
  | some (.ptr b off) => some (.ptr b off)
  | _ => none
 | .binOp op t x y _ => match ρ x, ρ y with
  | some a, some b => vbin T op t a b
  | _, _ => none
 | .unOp op _ x => match ρ x with
  | some a => vun op a
  | none => none
 | .convert s d x => match T s, T d, ρ x with
  | some _, some { k := .int k, .. }, some (.int _ n) => some (.int k (k.wrap n))
  | some _, some { k := .str, .. }, some (.str s) => some (.str s)
  | _, _, _ => none
 | .makeFunc (.func f) first caps => match first.toList, evs ρ caps.toList with
  | [], some vs => some (.fn f vs)
  | _, _ => none
 | .slice t x lo hi mx => match T t, ρ x, optEv ρ lo, optEv ρ hi, optEv ρ mx with
  | some { k := .slice e, .. }, some x, some lo, some hi, some mx => match T e with
   | some i => sliceV i.size x lo hi mx
   | none => none
  | some { k := .str, .. }, some (.str s), some lo, some hi, some none => Rb s lo hi
  | _, _, _, _, _ => none
 | .fieldAddr t x f => match T t, ρ x with
  | some { k := .strct fs, .. }, some (.ptr b off) => match fs[f]? with
   | some (ft, fo) => match T ft with
    | some i => if i.size = 0 then none else some (.ptr b (off + fo))
    | none => none
   | none => none
  | _, _ => none
 | .indexAddr t x ix => match T t, ρ x, ρ ix with
  | some { k := .slice e, .. }, some (.slc b off len cap _ _), some (.int _ i) => match T e with
   | some ei => if 0 ≤ i ∧ i < len then some (.ptr b (off + i.toNat * ei.size)) else none
   | none => none
  | some { k := .arr n e, .. }, some (.ptr b off), some (.int _ i) => match T e with
   | some ei => if 0 ≤ i ∧ i < n then some (.ptr b (off + i.toNat * ei.size)) else none
   | none => none
  | _, _, _ => none
 | .index t x ix => match T t, ρ x, ρ ix with
  | some { k := .str, .. }, some (.str s), some (.int _ i) => if 0 ≤ i then (s[i.toNat]?).map fun b => .int .u8 b.toNat else none
  | _, _, _ => none
 | .field t x f => match T t, ρ x with
  | some { k := .strct fs, .. }, some (.agg cs) => match fs[f]? with
   | some (ft, fo) => match T ft with
    | some i => if fo + i.size ≤ cs.length then (if i.k.agg then some (.agg ((cs.drop fo).take i.size)) else cs[fo]?) else none
    | none => none
   | none => none
  | _, _ => none
 | .extract x i => match ρ x with
  | some (.tup vs) => vs[i]?
  | _ => none
 | .call { callee := .builtin b, args := xs, argTypes := ts } => match evs ρ xs.toList with
  | some vs => builtinP T b ts.toList vs
  | none => none
 | _ => none
def V.bytesOf (s : ByteArray) : List V := s.data.toList.map fun b => .int .u8 b.toNat
def V.toBytes : List V → Option (List UInt8)
 | [] => some []
 | .int .u8 n :: vs => match V.toBytes vs with
  | some bs => some (UInt8.ofNat n.toNat :: bs)
  | none => none
 | _ => none
def Bw (z : List V) (n : Nat) : List V := (List.replicate n z).flatten
def newsOf (T : Tab) (e : TI) (t2 : Nat) (x : V) (h : Heap) : Option (Nat × List V) :=
 match T t2, x with
 | some { k := .int _, .. }, .int _ n => if 0 ≤ n ∧ n * e.bytes ≤ 2 ^ 47 ∧ n ≤ IntKind.i64.max then some (n.toNat, Bw e.zero n.toNat) else none
 | some { k := .slice _, .. }, .AN => some (0, [])
 | some { k := .slice _, .. }, .slc b off n _ _ _ => if n = 0 then some (0, []) else (h.loadN b off (n * e.size)).map fun cs => (n, cs)
 | some { k := .str, .. }, .str s => some (s.size, V.bytesOf s)
 | _, _ => none
def appendV (e : TI) (s : V) (n : Nat) (news : List V) (h : Heap) : Option (V × Heap) :=
 if news.length ≠ n * e.size then none else
 match s with
 | .AN => if n = 0 then some (.AN, h) else
  if n * e.bytes ≤ 2 ^ 47 ∧ n ≤ 2 ^ 47 then some (.slc h.length 0 n n false e.size, h ++ [.row news true]) else none
 | .slc b off len cap t sz =>
  if sz ≠ e.size then none
  else if len + n ≤ cap then
   if n = 0 then some (.slc b off len cap t sz, h)
   else (h.storeN b (off + len * e.size) news).map fun h' => (.slc b off (len + n) cap t sz, h')
  else if (len + n) * e.bytes ≤ 2 ^ 47 ∧ len + n ≤ 2 ^ 47 then
   match h[b]?, h.loadN b off (len * e.size) with
   | some (.row _ wr), some old =>
     if t then some (.slc h.length 0 (len + n) (len + n) false sz, h ++ [.row (old ++ news) true])
     else if wr then some (.slc h.length 0 (len + n) (len + n) false sz, h.set b .dead ++ [.row (old ++ news) true])
     else none
   | _, _ => none
  else none
 | _ => none
def copyV (e : TI) (dst src : V) (h : Heap) : Option (V × Heap) :=
 match dst, src with
 | .slc b off len _ _ _, .slc b2 off2 len2 _ _ _ =>
  let n := Nat.min len2 len
  if n = 0 then some (.int .i64 0, h) else
  match h.loadN b2 off2 (n * e.size) with
  | some cs => match h.storeN b off cs with
   | some h' => some (.int .i64 n, h')
   | none => none
  | none => none
 | _, _ => none
def mapGet (es : List (Int × Int)) (k : Int) : Option Int :=
 match es with
 | [] => none
 | (a, b) :: r => if a = k then some b else mapGet r k
def DK (es : List (Int × Int)) (k v : Int) : List (Int × Int) :=
 match es with
 | [] => [(k, v)]
 | (a, b) :: r => if a = k then (a, v) :: r else (a, b) :: DK r k v
def memOp (T : Tab) (ρ : Operand → Option V) (h : Heap) : Op → Option (V × Heap)
 | .alloc t => match T t with
  | some i => some (.ptr h.length 0, h ++ [.row i.zero true])
  | none => none
 | .box t x => match T t, ρ x with
  | some i, some v => match v with
   | .tup _ => none
   | v => some (.ptr h.length 0, h ++ [.row v.cells true])
  | _, _ => none
 | .buildSlice t len parts => match T t with
  | some { k := .slice e, .. } => match T e, evParts ρ parts.toList with
   | some i, some ps => if len * i.size ≤ 2 ^ 24 then
     match fillV (FG i.size len) (Bw i.zero len) ps with
     | some cs => some (.slc h.length 0 len len true i.size, h ++ [.row cs true])
     | none => none
    else none
   | _, _ => none
  | _ => none
 | .load t x => match T t, ρ x with
  | some i, some (.ptr b off) => if i.k.agg then (h.loadN b off i.size).map fun cs => (.agg cs, h) else
    match h.loadN b off 1 with
    | some [v] => some (v, h)
    | _ => none
  | _, _ => none
 | .store t x y => match T t, ρ x, ρ y with
  | some i, some (.ptr b off), some v => match v with
   | .tup _ => none
   | v => if v.cells.length = i.size then (h.storeN b off v.cells).map fun h' => (V.undef, h') else none
  | _, _, _ => none
 | .makeSlice t n c => match T t, ρ n, ρ c with
  | some { k := .slice e, .. }, some (.int _ n), some (.int _ c) => match T e with
   | some i => if 0 ≤ n ∧ n ≤ c ∧ (i.bytes : Int) * c ≤ 2 ^ 48 ∧ c ≤ IntKind.i64.max then
     some (.slc h.length 0 n.toNat c.toNat true i.size, h ++ [.row (Bw i.zero c.toNat) true])
    else none
   | none => none
  | _, _, _ => none
 | .convert s d x => match T s, T d, ρ x with
  | some { k := .str, .. }, some { k := .slice e, .. }, some (.str s) => match T e with
   | some { k := .int .u8, size := 1, .. } => some (.slc h.length 0 s.size s.size false 1, h ++ [.row (V.bytesOf s) false])
   | _ => none
  | some { k := .slice e, .. }, some { k := .str, .. }, some (.slc b off n _ _ _) => match T e with
   | some { k := .int .u8, .. } => if n = 0 then some (.str ⟨#[]⟩, h) else match h.loadN b off n with
    | some cs => match V.toBytes cs with
     | some bs => some (.str ⟨bs.toArray⟩, h)
     | none => none
    | none => none
   | _ => none
  | some { k := .slice e, .. }, some { k := .str, .. }, some .AN => match T e with
   | some { k := .int .u8, .. } => some (.str ⟨#[]⟩, h)
   | _ => none
  | _, _, _ => none
 | .makeMap _ none => some (.map h.length, h ++ [.mp []])
 | .lookup t x ix false => match T t, ρ x, ρ ix with
  | some { k := .map, .. }, some (.map b), some (.int .i64 k) => match h[b]? with
   | some (.mp es) => some (.int .i64 ((mapGet es k).getD 0), h)
   | _ => none
  | _, _, _ => none
 | .mapUpdate t x ix y => match T t, ρ x, ρ ix, ρ y with
  | some { k := .map, .. }, some (.map b), some (.int .i64 k), some (.int .i64 v) => match h[b]? with
   | some (.mp es) => some (V.undef, h.set b (.mp (DK es k v)))
   | _ => none
  | _, _, _, _ => none
 | .call { callee := .builtin .append, args := xs, argTypes := ts } => match evs ρ xs.toList, ts.toList with
  | some [s, x], [t1, t2] => match T t1 with
   | some { k := .slice e, .. } => match T e with
    | some i => match newsOf T i t2 x h with
     | some (n, news) => appendV i s n news h
     | none => none
    | none => none
   | _ => none
  | _, _ => none
 | .call { callee := .builtin .copy, args := xs, argTypes := ts } => match evs ρ xs.toList, ts.toList with
  | some [s, x], [t1, t2] => match T t1, T t2 with
   | some { k := .slice e, .. }, some { k := .slice _, .. } => match T e with
    | some i => copyV i s x h
    | none => none
   | _, _ => none
  | _, _ => none
 | .call { callee := .builtin .clear, args := xs, argTypes := ts } => match evs ρ xs.toList, ts.toList with
  | some [.slc b off n _ _ _], [t1] => match T t1 with
   | some { k := .slice e, .. } => match T e with
    | some i => if n = 0 then some (.tup [], h) else (h.storeN b off (Bw i.zero n)).map fun h' => (.tup [], h')
    | none => none
   | _ => none
  | _, _ => none
 | _ => none
def TK.fits (P : Program) (t : Nat) : TK → Prop
 | .bool => P.underlying t = some .bool
 | .int k => P.underlying t = some (.int k)
 | .str => P.underlying t = some .string
 | .strct fs => ∃ (F : Array Field) (places : List (Nat × Nat)), P.underlying t = some (.struct F) ∧ F.toList.map (fun f => (f.type, f.offset)) = fs ∧ F.toList.mapM (fun f => (P.info? f.type).map fun i => (f.offset, i.size)) = some places
 | .arr n e => P.underlying t = some (.array n e)
 | .slice e => P.underlying t = some (.slice e)
 | .ptr => ∃ e, P.underlying t = some (.pointer e)
 | .map => ∃ k e q, P.underlying t = some (.map k e) ∧ P.underlying k = some (.int .i64) ∧ P.info? e = some q ∧ q.zero = some (.int .i64 0)
 | .other => ∃ d, P.underlying t = some d ∧ (∀ F, d ≠ .struct F) ∧ ∀ n e, d ≠ .array n e
structure TI.fits (P : Program) (t : Nat) (i : TI) : Prop where
 info : ∃ q z, P.info? t = some q ∧ q.size = i.size ∧ q.bytes = i.bytes ∧ q.zero = some z ∧ (∀ μ, VRs μ i.zero z.cells.toList) ∧ (∀ v ∈ i.zero, v.one = true) ∧ i.zero.length = i.size
 kind : i.k.fits P t
 cmp : i.cmp ≠ [] → ∀ μ xs ys (cx cy : Array Value) b, VRs μ xs cx.toList → VRs μ ys cy.toList → eqs i.cmp xs ys = some b →
  ∀ w, (Op.equal t (.agg cx) (.agg cy)).run P w = .ok b w ∧ ∀ op (x y : Operand), (eqGuard op t x y (.agg cx) (.agg cy)).run P w = .ok () w
def Fits (P : Program) (T : Tab) : Prop := ∀ t i, T t = some i → i.fits P t
end Go.Proofs.YtncjbjlmgnjhiaaGreat.VM
namespace Go.Proofs.YtncjbjlmgnjhiaaGreat.VM
open Go
set_option linter.unusedVariables false
set_option linter.unusedSimpArgs false
variable {P : Program} {T : Tab} {μ : Mu}
theorem Av {t : Nat} {d : TypeDesc} (h : P.underlying t = some d) (w : World) : (underlying t).run P w = .ok d w := by
 simp [underlying, h]
theorem Cq {t : Nat} {q : TypeInfo} (h : P.info? t = some q) (w : World) : (typeInfo t).run P w = .ok q w := by
 simp [typeInfo, h]
theorem CE {t : Nat} {q : TypeInfo} (h : P.info? t = some q) (w : World) : (sizeOf t).run P w = .ok q.size w := by
 simp [sizeOf, Cq h]
theorem Fq {t : Nat} {q : TypeInfo} {z : Value} (h : P.info? t = some q) (hz : q.zero = some z) (w : World) : (zeroValue t).run P w = .ok z w := by
 simp [zeroValue, Cq h, hz]
theorem Bd {s : Sem Value} {w w' : World} {x : Value} (h : s.run P w = .ok x w') : (do pure (Next.value (← s)) : Sem Next).run P w = .ok (.value x) w' := by
 simp [h]
theorem VR.int {k n} {w : Value} (h : VR μ (.int k n) w) : w = .int k n := by simpa only [VR] using h
theorem VR.bool {b} {w : Value} (h : VR μ (.bool b) w) : w = .bool b := by simpa only [VR] using h
theorem VR.str {b} {w : Value} (h : VR μ (.str b) w) : w = .string b := by simpa only [VR] using h
theorem VR.AN {w : Value} (h : VR μ .AN w) : w = .slice none 0 0 := by simpa only [VR] using h
theorem VR.Co {w : Value} (h : VR μ .Co w) : w = .pointer none := by simpa only [VR] using h
theorem VR.Cu (k n) : VR μ (.int k n) (.int k n) := by simp only [VR]
theorem VR.Ed (b) : VR μ (.bool b) (.bool b) := by simp only [VR]
theorem VR.MK (b) : VR μ (.str b) (.string b) := by simp only [VR]
theorem VR.RG : VR μ .AN (.slice none 0 0) := by simp only [VR]
mutual
theorem VR.Fm : ∀ (v : Value) {u : V}, V.of v = some u → VR μ u v
 | .int k n, _, h => by simp only [V.of, Option.some.injEq] at h; subst h; exact VR.Cu _ _
 | .bool b, _, h => by simp only [V.of, Option.some.injEq] at h; subst h; exact VR.Ed _
 | .string s, _, h => by simp only [V.of, Option.some.injEq] at h; subst h; exact VR.MK _
 | .pointer none, _, h => by simp only [V.of, Option.some.injEq] at h; subst h; simp only [VR]
 | .slice none 0 0, _, h => by simp only [V.of, Option.some.injEq] at h; subst h; exact VR.RG
 | .agg ⟨cs⟩, _, h => by
  simp only [V.of, Option.map_eq_some_iff] at h
  obtain ⟨us, hu, rfl⟩ := h
  obtain ⟨h1, h2⟩ := VRs.Fm cs hu
  simp only [VR]
  exact ⟨⟨cs⟩, rfl, h2, h1⟩
 | .slice none (n + 1) c, _, h => by simp [V.of] at h
 | .slice none 0 (c + 1), _, h => by simp [V.of] at h
 | .slice (some a) n c, _, h => by simp [V.of] at h
 | .pointer (some a), _, h => by simp [V.of] at h
 | .float _ _, _, h => by simp [V.of] at h
 | .complex _ _ _, _, h => by simp [V.of] at h
 | .map none, _, h => by simp only [V.of, Option.some.injEq] at h; subst h; simp only [VR]
 | .map (some _), _, h => by simp [V.of] at h
 | .chan _, _, h => by simp [V.of] at h
 | .func _ _ _, _, h => by simp [V.of] at h
 | .nilFunc, _, h => by simp [V.of] at h
 | .iface _ _, _, h => by simp [V.of] at h
 | .nilIface, _, h => by simp [V.of] at h
 | .tuple _, _, h => by simp [V.of] at h
theorem VRs.Fm : ∀ (vs : List Value) {us : List V}, V.ofs vs = some us → VRs μ us vs ∧ ∀ u ∈ us, u.one = true
 | [], _, h => by simp only [V.ofs, Option.some.injEq] at h; subst h; simp [VRs]
 | v :: vs, _, h => by
  simp only [V.ofs] at h
  split at h
  ·rename_i u us hu hus
   split at h
   ·rename_i h1
    simp only [Option.some.injEq] at h
    subst h
    obtain ⟨k1, k2⟩ := VRs.Fm vs hus
    refine ⟨by simp only [VRs]; exact ⟨v, vs, rfl, VR.Fm v hu, k1⟩, fun x hx => ?_⟩
    simp only [List.mem_cons] at hx
    rcases hx with rfl | hx
    ·exact h1
    ·exact k2 x hx
   ·cases h
  ·cases h
end
theorem FT {ρ : Operand → Option V} {ρc : Operand → Value} (hρ : ∀ x v, ρ x = some v → VR μ v (ρc x)) : ∀ (xs : List Operand) {vs : List V}, evs ρ xs = some vs → VRs μ vs (xs.map ρc)
 | [], _, h => by simp only [evs, Option.some.injEq] at h; subst h; simp [VRs]
 | x :: xs, _, h => by
  simp only [evs] at h
  split at h
  ·rename_i v vs hv hvs
   simp only [Option.some.injEq] at h
   subst h
   simp only [List.map_cons, VRs]
   exact ⟨_, _, rfl, hρ x v hv, FT hρ xs hvs⟩
  ·cases h
theorem NG {n : Nat} (h : n ≤ 9223372036854775807) : IntKind.i64.wrap n = n := by
 unfold IntKind.wrap
 simp [IntKind.bits, IntKind.signed]
 omega
theorem Qv {op : BinOp} {k : IntKind} {a b : Int} {v : V} (h1 : op ≠ .shl) (h2 : op ≠ .shr) (h : intBin op k a b = some v) (t : Nat) :
  ∃ cv, VR μ v cv ∧ ∀ w, (Go.binOp op t (.int k a) (.int k b)).run P w = .ok cv w := by
 cases op <;> simp only [intBin, Option.some.injEq, reduceCtorEq] at h
 case quo =>
  split at h
  ·cases h
  ·rename_i hb
   simp only [Option.some.injEq] at h; subst h
   exact ⟨_, VR.Cu _ _, fun w => by simp [Go.binOp, Op.intDiv, hb]⟩
 case rem =>
  split at h
  ·cases h
  ·rename_i hb
   simp only [Option.some.injEq] at h; subst h
   exact ⟨_, VR.Cu _ _, fun w => by simp [Go.binOp, Op.intDiv, hb]⟩
 all_goals first
  | exact absurd rfl h1
  | exact absurd rfl h2
  | (subst h; first
    | exact ⟨_, VR.Cu _ _, fun w => by simp [Go.binOp, Op.intArith, Op.intBits, Op.intCmp]⟩
    | exact ⟨_, VR.Ed _, fun w => by simp [Go.binOp, Op.intArith, Op.intBits, Op.intCmp]⟩)
theorem Ez {op : BinOp} {t : Nat} {x y : Operand} {a b : Value} (h : ∀ cs, a ≠ .agg cs) (h' : a ≠ .nilIface) (w : World) : (eqGuard op t x y a b).run P w = .ok () w := by
 unfold eqGuard
 cases op <;> cases a <;> first | rfl | (exact absurd rfl (h _)) | (exact absurd rfl h')
theorem fO {op : BinOp} {t u : Nat} {x y : Operand} {ρc : Operand → Value} {o : Oper} (ho : o.op = .binOp op t x y u) {cv : Value} {w : World}
  (hg : (eqGuard op t x y (ρc x) (ρc y)).run P w = .ok () w) (hr : (Go.binOp op t (ρc x) (ρc y)).run P w = .ok cv w) : (execOp ρc o).run P w = .ok (.value cv) w := by
 simp only [execOp, ho]
 refine Bd ?_
 simp [hg, hr]
theorem UN {t : Nat} (hu : P.underlying t = some .bool) (p q : Bool) (d : Nat) (w : World) : (Op.equalIn (d + 1) t (.bool p) (.bool q)).run P w = .ok (p == q) w := by
 simp only [Op.equalIn, Sem.run_bind, Av hu, Result.andThen_ok, Sem.run_pure]
theorem UO {t e : Nat} (hu : P.underlying t = some (.slice e)) (d : Nat) (w : World) : (Op.equalIn (d + 1) t (.slice none 0 0) (.slice none 0 0)).run P w = .ok true w := by
 simp only [Op.equalIn, Sem.run_bind, Av hu, Result.andThen_ok, Sem.run_pure, Option.isNone_none]
theorem SG {t e : Nat} (hu : P.underlying t = some (.slice e)) (a : Addr) (n c : Nat) (d : Nat) (w : World) : (Op.equalIn (d + 1) t (.slice (some a) n c) (.slice none 0 0)).run P w = .ok false w := by
 simp only [Op.equalIn, Sem.run_bind, Av hu, Result.andThen_ok, Sem.run_pure]
theorem NQ {t : Nat} {x y : Value} {b : Bool} {w : World} (h : (Op.equal t x y).run P w = .ok b w) : (do pure (Value.bool (← Op.equal t x y)) : Sem Value).run P w = .ok (.bool b) w ∧ (do pure (Value.bool (!(← Op.equal t x y))) : Sem Value).run P w = .ok (.bool !b) w := by
 constructor <;> simp only [Sem.run_bind, h, Result.andThen_ok, Sem.run_pure]
theorem UM {op : BinOp} {v : V} (h : eqlOr op none = some v) : False := by
 cases op <;> simp [eqlOr] at h
theorem VD (fit : Fits P T) {op : BinOp} {t u : Nat} {x y : Operand} {a b v : V} {ρc : Operand → Value} {o : Oper} (ho : o.op = .binOp op t x y u)
  (hx : VR μ a (ρc x)) (hy : VR μ b (ρc y)) (h : vbin T op t a b = some v) : ∃ cv, VR μ v cv ∧ ∀ w, (execOp ρc o).run P w = .ok (.value cv) w := by
 suffices hs : ∃ cv, VR μ v cv ∧ ∀ w, (eqGuard op t x y (ρc x) (ρc y)).run P w = .ok () w ∧ (Go.binOp op t (ρc x) (ρc y)).run P w = .ok cv w by
  obtain ⟨cv, h1, h2⟩ := hs
  exact ⟨cv, h1, fun w => fO ho (h2 w).1 (h2 w).2⟩
 cases a with
 | int k m =>
  have ex := hx.int
  cases b with
  | int k' n =>
   have ey := hy.int
   rw [ex, ey]
   have hg : ∀ w, (eqGuard op t x y (Value.int k m) (Value.int k' n)).run P w = .ok () w := fun w => Ez (by intro _ h; cases h) (by intro h; cases h) w
   by_cases hs : op = .shl ∨ op = .shr
   ·have h' : shiftBin op k m n = some v := by rcases hs with rfl | rfl <;> simpa [vbin] using h
    unfold shiftBin at h'
    split at h'
    ·cases h'
    ·rename_i hn
     rcases hs with rfl | rfl
     ·simp only [Option.some.injEq] at h'; subst h'
      exact ⟨_, VR.Cu _ _, fun w => ⟨hg w, by simp [Go.binOp, Op.shift, hn]⟩⟩
     ·simp only [Option.some.injEq] at h'; subst h'
      exact ⟨_, VR.Cu _ _, fun w => ⟨hg w, by simp [Go.binOp, Op.shift, hn]⟩⟩
   ·have h1 : op ≠ .shl := fun e => hs (.inl e)
    have h2 : op ≠ .shr := fun e => hs (.inr e)
    have h' : (if k = k' then intBin op k m n else none) = some v := by cases op <;> first | exact absurd rfl h1 | exact absurd rfl h2 | simpa [vbin] using h
    split at h'
    ·rename_i hk
     subst hk
     obtain ⟨cv, hv1, hr⟩ := Qv (μ := μ) (P := P) h1 h2 h' t
     exact ⟨cv, hv1, fun w => ⟨hg w, hr w⟩⟩
    ·cases h'
  | _ => simp [vbin] at h
 | str s =>
  have ex := hx.str
  cases b with
  | str s' =>
   have ey := hy.str
   rw [ex, ey]
   have hg : ∀ w, (eqGuard op t x y (Value.string s) (Value.string s')).run P w = .ok () w := fun w => Ez (by intro _ h; cases h) (by intro h; cases h) w
   simp only [vbin] at h
   cases op <;> simp only [strBin, Option.some.injEq, reduceCtorEq] at h
   case add =>
    split at h
    ·cases h
    ·rename_i hsz
     simp only [Option.some.injEq] at h; subst h
     exact ⟨_, VR.MK _, fun w => ⟨hg w, by simp only [Go.binOp, Op.stringOp]; rw [if_neg hsz]; rfl⟩⟩
   all_goals (subst h; exact ⟨_, VR.Ed _, fun w => ⟨hg w, by simp [Go.binOp, Op.stringOp]⟩⟩)
  | _ => simp [vbin] at h
 | bool p =>
  have ex := hx.bool
  cases b with
  | bool q =>
   have ey := hy.bool
   rw [ex, ey]
   have hg : ∀ w, (eqGuard op t x y (Value.bool p) (Value.bool q)).run P w = .ok () w := fun w => Ez (by intro _ h; cases h) (by intro h; cases h) w
   simp only [vbin] at h
   split at h
   ·rename_i hT
    have hu : P.underlying t = some .bool := (fit _ _ hT).kind
    have hb : ∀ w, (Go.binOp .eql t (.bool p) (.bool q)).run P w = .ok (.bool (p == q)) w ∧ (Go.binOp .neq t (.bool p) (.bool q)).run P w = .ok (.bool !(p == q)) w := fun w => by
     exact NQ (UN hu p q 9999 w)
    cases op <;> simp only [eqlOr, Option.map_some, Option.some.injEq, reduceCtorEq] at h
    ·subst h; exact ⟨_, VR.Ed _, fun w => ⟨hg w, (hb w).1⟩⟩
    ·subst h; exact ⟨_, VR.Ed _, fun w => ⟨hg w, (hb w).2⟩⟩
   ·cases h
  | _ => simp [vbin] at h
 | agg xs =>
  cases b with
  | agg ys =>
   simp only [VR] at hx hy
   obtain ⟨cx, ex, _, hcx⟩ := hx
   obtain ⟨cy, ey, _, hcy⟩ := hy
   rw [ex, ey]
   simp only [vbin] at h
   split at h
   ·rename_i ck cks hT
    cases he : eqs (ck :: cks) xs ys with
    | none => rw [he] at h; exact (UM h).elim
    | some r =>
     rw [he] at h
     have hc := (fit _ _ hT).cmp nofun μ xs ys cx cy r hcx hcy he
     have hb : ∀ w, (Go.binOp .eql t (.agg cx) (.agg cy)).run P w = .ok (.bool r) w ∧ (Go.binOp .neq t (.agg cx) (.agg cy)).run P w = .ok (.bool !r) w := fun w => by
      exact NQ (hc w).1
     cases op <;> simp only [eqlOr, Option.map_some, Option.some.injEq, reduceCtorEq] at h
     ·subst h; exact ⟨_, VR.Ed _, fun w => ⟨(hc w).2 _ _ _, (hb w).1⟩⟩
     ·subst h; exact ⟨_, VR.Ed _, fun w => ⟨(hc w).2 _ _ _, (hb w).2⟩⟩
   ·cases h
  | _ => simp [vbin] at h
 | AN =>
  have ex := hx.AN
  cases b with
  | AN =>
   have ey := hy.AN
   rw [ex, ey]
   have hg : ∀ w, (eqGuard op t x y (Value.slice none 0 0) (Value.slice none 0 0)).run P w = .ok () w := fun w => Ez (by intro _ h; cases h) (by intro h; cases h) w
   simp only [vbin] at h
   split at h
   ·rename_i hT
    have hu : P.underlying t = some (.slice _) := (fit _ _ hT).kind
    have hb : ∀ w, (Go.binOp .eql t (.slice none 0 0) (.slice none 0 0)).run P w = .ok (.bool true) w ∧ (Go.binOp .neq t (.slice none 0 0) (.slice none 0 0)).run P w = .ok (.bool false) w := fun w => by
     exact NQ (UO hu 9999 w)
    cases op <;> simp only [eqlOr, Option.map_some, Option.some.injEq, reduceCtorEq] at h
    ·subst h; exact ⟨_, VR.Ed _, fun w => ⟨hg w, (hb w).1⟩⟩
    ·subst h; exact ⟨_, VR.Ed _, fun w => ⟨hg w, (hb w).2⟩⟩
   ·cases h
  | _ => simp [vbin] at h
 | slc bb off len cap tt ssz =>
  cases b with
  | AN =>
   have ey := hy.AN
   simp only [VR] at hx
   obtain ⟨aa, c, ex, _⟩ := hx
   rw [ex, ey]
   have hg : ∀ w, (eqGuard op t x y (Value.slice (some aa) len c) (Value.slice none 0 0)).run P w = .ok () w := fun w => Ez (by intro _ h; cases h) (by intro h; cases h) w
   simp only [vbin] at h
   split at h
   ·rename_i hT
    have hu : P.underlying t = some (.slice _) := (fit _ _ hT).kind
    have hb : ∀ w, (Go.binOp .eql t (.slice (some aa) len c) (.slice none 0 0)).run P w = .ok (.bool false) w ∧ (Go.binOp .neq t (.slice (some aa) len c) (.slice none 0 0)).run P w = .ok (.bool true) w := fun w => by
     exact NQ (SG hu _ _ _ 9999 w)
    cases op <;> simp only [eqlOr, Option.map_some, Option.some.injEq, reduceCtorEq] at h
    ·subst h; exact ⟨_, VR.Ed _, fun w => ⟨hg w, (hb w).1⟩⟩
    ·subst h; exact ⟨_, VR.Ed _, fun w => ⟨hg w, (hb w).2⟩⟩
   ·cases h
  | _ => simp [vbin] at h
 | _ => simp [vbin] at h
end Go.Proofs.YtncjbjlmgnjhiaaGreat.VM
namespace Go.Proofs.YtncjbjlmgnjhiaaGreat.VM
open Go
set_option linter.unusedVariables false
set_option linter.unusedSimpArgs false
variable {P : Program} {T : Tab} {μ : Mu}
theorem VRs.setL {cs : List V} {ws : List Value} (h : VRs μ cs ws) : ∀ {vs : List V} {us : List Value} (i : Nat), VRs μ vs us → VRs μ (setL cs i vs) (setL ws i us)
 | [], _, i, hv => by simp only [VRs] at hv; subst hv; exact h
 | v :: vs, _, i, hv => by
  simp only [VRs] at hv
  obtain ⟨w, us', rfl, h1, h2⟩ := hv
  simp only [VM.setL]
  exact VRs.setL (h.set i h1) (i + 1) h2
theorem ZL {cs : List V} (h : ∀ c ∈ cs, c.one = true) (i : Nat) {v : V} (hv : v.one = true) : ∀ c ∈ cs.set i v, c.one = true := fun c hc => by
 rcases List.mem_or_eq_of_mem_set hc with h' | h'
 ·exact h c h'
 ·exact h' ▸ hv
theorem QB {cs : List V} (h : ∀ c ∈ cs, c.one = true) : ∀ {vs : List V} (i : Nat), (∀ v ∈ vs, v.one = true) → ∀ c ∈ setL cs i vs, c.one = true
 | [], i, _ => h
 | v :: vs, i, hv => QB (ZL h i (hv v (by simp))) (i + 1) (fun u hu => hv u (by simp [hu]))
theorem Pl (off : Nat) : ∀ (vs : List Value) (j : Nat) (cells : Array Value), ((vs.zipIdx j).foldl (fun cs (p : Value × Nat) => cs.setIfInBounds (off + p.2) p.1) cells).toList = setL cells.toList (off + j) vs
 | [], j, cells => rfl
 | v :: vs, j, cells => by
  simp only [List.zipIdx_cons, List.foldl_cons, VM.setL]
  rw [Pl off vs (j + 1)]
  simp [Nat.add_assoc]
def PartsR (μ : Mu) : List (Nat × V) → List (Nat × Value) → Prop
 | [], us => us = []
 | p :: ps, us => ∃ q qs, us = q :: qs ∧ p.1 = q.1 ∧ VR μ p.2 q.2 ∧ PartsR μ ps qs
theorem HZ {ρ : Operand → Option V} {ρc : Operand → Value} (hρ : ∀ x v, ρ x = some v → VR μ v (ρc x)) : ∀ (xs : List (Nat × Operand)) {ps : List (Nat × V)}, evParts ρ xs = some ps → PartsR μ ps (xs.map fun p => (p.1, ρc p.2))
 | [], _, h => by simp only [evParts, Option.some.injEq] at h; subst h; simp [PartsR]
 | (i, x) :: xs, _, h => by
  simp only [evParts] at h
  split at h
  ·rename_i v vs hv hvs
   simp only [Option.some.injEq] at h
   subst h
   simp only [List.map_cons, PartsR]
   exact ⟨_, _, rfl, rfl, hρ x v hv, HZ hρ xs hvs⟩
  ·cases h
theorem KN {pl pl' : Nat → Option (Nat × Nat)} (hpl : ∀ i p, pl i = some p → pl' i = some p) : ∀ (ps : List (Nat × V)) (qs : List (Nat × Value)) {cs cs' : List V} {ws : Array Value}, VRs μ cs ws.toList → (∀ c ∈ cs, c.one = true) → PartsR μ ps qs →
  fillV pl cs ps = some cs' → ∃ ws', Instr.fill pl' ws qs = some ws' ∧ VRs μ cs' ws'.toList ∧ (∀ c ∈ cs', c.one = true) ∧ cs'.length = cs.length
 | [], qs, cs, cs', ws, hc, h1, hp, h => by
  simp only [PartsR] at hp
  subst hp
  simp only [fillV, Option.some.injEq] at h
  subst h
  exact ⟨ws, rfl, hc, h1, rfl⟩
 | (i, v) :: ps, qs, cs, cs', ws, hc, h1, hp, h => by
  simp only [PartsR] at hp
  obtain ⟨⟨j, u⟩, qs', rfl, rfl, hv, hp'⟩ := hp
  simp only [fillV] at h
  split at h
  ·cases h
  ·rename_i off size hpi
   split at h
   ·rename_i hl
    obtain ⟨hl0, hl1, hl2⟩ := hl
    have hnt' : ∀ vs, v ≠ .tup vs := fun vs e => by subst e; simp [V.isTup] at hl0
    obtain ⟨hcells, hone⟩ := VR.cells hv hnt'
    have hlen : u.cells.size = size := by
     have := hcells.length
     simp only [Array.length_toList] at this
     omega
    have hsz : ws.size = cs.length := by have := hc.length; simpa using this
    obtain ⟨ws', k1, k2, k3, k4⟩ := KN hpl ps qs' (cs := setL cs off v.cells) (ws := u.cells.zipIdx.foldl (fun cs (c, j) => cs.setIfInBounds (off + j) c) ws) (by
     rw [← Array.foldl_toList, Array.toList_zipIdx, Pl off u.cells.toList 0 ws]
     exact hc.setL _ hcells) (QB h1 _ hone) hp' h
    refine ⟨ws', ?_, k2, k3, by rw [k4, Ck]⟩
    simp only [Instr.fill, hpl _ _ hpi]
    rw [if_neg (by simp only [ne_eq, Bool.or_eq_true, decide_eq_true_eq, not_or, Decidable.not_not]; exact ⟨by simpa using hlen, by omega⟩)]
    exact k1
   ·cases h
theorem OV {P : Program} : ∀ {fs : List Field} {places : List (Nat × Nat)}, fs.mapM (fun f => (P.info? f.type).map fun i => (f.offset, i.size)) = some places → ∀ (i : Nat) f, fs[i]? = some f → ∃ q, P.info? f.type = some q ∧ places[i]? = some (f.offset, q.size)
 | [], _, h, i, f, hf => by simp at hf
 | g :: fs, places, h, i, f, hf => by
  simp only [List.mapM_cons, Option.bind_eq_bind, Option.pure_def] at h
  cases hi : P.info? g.type with
  | none => simp [hi] at h
  | some q =>
   cases hr : fs.mapM (fun f => (P.info? f.type).map fun i => (f.offset, i.size)) with
   | none => simp [hi, hr] at h
   | some rest =>
    simp [hi, hr] at h
    subst h
    cases i with
    | zero => simp at hf; subst hf; exact ⟨q, hi, rfl⟩
    | succ i => simp at hf; simpa using OV hr i f hf
theorem Qo {F : Array Field} {fs : List (Nat × Nat)} (h : F.toList.map (fun f => (f.type, f.offset)) = fs) {i t off : Nat} (hi : fs[i]? = some (t, off)) : ∃ f, F[i]? = some f ∧ f.type = t ∧ f.offset = off := by
 subst h
 rw [List.getElem?_map] at hi
 simp only [Array.getElem?_toList, Option.map_eq_some_iff, Prod.mk.injEq] at hi
 obtain ⟨f, h1, h2, h3⟩ := hi
 exact ⟨f, h1, h2, h3⟩
theorem DS {d m r : Nat} (h : boundV none d m = some r) : r = d := by simpa [boundV] using h.symm
theorem Dt {x : V} {d m r : Nat} (h : boundV (some x) d m = some r) : ∃ k i, x = .int k i ∧ 0 ≤ i ∧ i ≤ m ∧ r = i.toNat := by
 cases x with
 | int k i =>
  simp only [boundV] at h
  split at h
  ·rename_i hi
   simp only [Option.some.injEq] at h
   exact ⟨k, i, rfl, hi.1, hi.2, h.symm⟩
  ·cases h
 | _ => simp [boundV] at h
def OptR (μ : Mu) : Option V → Option Value → Prop
 | none, w => w = none
 | some v, w => ∃ u, w = some u ∧ VR μ v u
theorem Er {ρ : Operand → Option V} {ρc : Operand → Value} (hρ : ∀ x v, ρ x = some v → VR μ v (ρc x)) {x : Option Operand} {v : Option V} (h : optEv ρ x = some v) : OptR μ v (x.map ρc) := by
 cases x with
 | none => simp only [optEv, Option.some.injEq] at h; subst h; rfl
 | some x =>
  simp only [optEv, Option.map_eq_some_iff] at h
  obtain ⟨u, hu, rfl⟩ := h
  exact ⟨_, rfl, hρ x u hu⟩
theorem EJ {k : IntKind} {i : Int} {y : Nat} (h0 : 0 ≤ i) (h1 : i ≤ y) (c : BoundsCode) (w : World) : (Instr.sliceBound (.int k i) y c).run P w = .ok i.toNat w := by
 simp [Instr.sliceBound, asIntOf, h0, h1]
theorem Kf {sl : Bool} {len cap cap' m h l : Nat} {lo hi mx : Option V} {lo' hi' mx' : Option Value} (rlo : OptR μ lo lo') (rhi : OptR μ hi hi') (rmx : OptR μ mx mx') (hc : cap ≤ cap')
  (hm : boundV mx cap cap = some m) (hh : (if mx.isSome then boundV hi len m else boundV hi len cap) = some h) (hx : (mx.isSome && hi.isNone) = false) (hl : boundV lo 0 h = some l) (w : World) :
  (Instr.sliceBounds sl len cap' lo' hi' mx').run P w = .ok (l, h, if mx.isSome then m else cap') w := by
 unfold Instr.sliceBounds
 cases mx with
 | none =>
  simp only [OptR] at rmx; subst rmx
  obtain rfl := DS hm
  simp only [Option.isSome_none, Bool.false_eq_true, if_false] at hh ⊢
  cases hi with
  | none =>
   simp only [OptR] at rhi; subst rhi
   obtain rfl := DS hh
   cases lo with
   | none => simp only [OptR] at rlo; subst rlo; obtain rfl := DS hl; simp
   | some lo =>
    obtain ⟨u, rfl, hu⟩ := rlo
    obtain ⟨k, i, rfl, i0, i1, rfl⟩ := Dt hl
    rw [hu.int]
    simp [EJ i0 i1]
  | some hi =>
   obtain ⟨u, rfl, hu⟩ := rhi
   obtain ⟨k, i, rfl, i0, i1, rfl⟩ := Dt hh
   rw [hu.int]
   cases lo with
   | none => simp only [OptR] at rlo; subst rlo; obtain rfl := DS hl; simp [EJ i0 (show i ≤ (cap' : Int) by omega)]
   | some lo =>
    obtain ⟨u', rfl, hu'⟩ := rlo
    obtain ⟨k', i', rfl, j0, j1, rfl⟩ := Dt hl
    rw [hu'.int]
    simp [EJ i0 (show i ≤ (cap' : Int) by omega), EJ j0 j1]
 | some mx =>
  obtain ⟨um, rfl, hum⟩ := rmx
  obtain ⟨km, im, rfl, m0, m1, rfl⟩ := Dt hm
  rw [hum.int]
  simp only [Option.isSome_some, if_true] at hh ⊢
  cases hi with
  | none => simp at hx
  | some hi =>
   obtain ⟨u, rfl, hu⟩ := rhi
   obtain ⟨k, i, rfl, i0, i1, rfl⟩ := Dt hh
   rw [hu.int]
   cases lo with
   | none => simp only [OptR] at rlo; subst rlo; obtain rfl := DS hl; simp [EJ i0 i1, EJ m0 (show im ≤ (cap' : Int) by omega)]
   | some lo =>
    obtain ⟨u', rfl, hu'⟩ := rlo
    obtain ⟨k', i', rfl, j0, j1, rfl⟩ := Dt hl
    rw [hu'.int]
    simp [EJ i0 i1, EJ m0 (show im ≤ (cap' : Int) by omega), EJ j0 j1]
theorem Ng {x : Option V} {d m r : Nat} (h : boundV x d m = some r) (hd : d ≤ m) : r ≤ m := by
 cases x with
 | none => rw [DS h]; exact hd
 | some x => obtain ⟨k, i, rfl, i0, i1, rfl⟩ := Dt h; omega
theorem Re {t e size : Nat} {q : TypeInfo} (hu : P.underlying t = some (.slice e)) (hq : P.info? e = some q) (hsz : q.size = size) {x v : V} {cx : Value} {lo hi mx : Option V} {lo' hi' mx' : Option Value}
  (hx : VR μ x cx) (rlo : OptR μ lo lo') (rhi : OptR μ hi hi') (rmx : OptR μ mx mx') (h : sliceV size x lo hi mx = some v) :
  ∃ cv, VR μ v cv ∧ ∀ w, (Instr.slice t cx lo' hi' mx').run P w = .ok cv w := by
 have hnn : (mx.isSome && hi.isNone) = false := by
  unfold sliceV at h
  split at h
  ·cases h
  ·rename_i hh; exact (Bool.not_eq_true _).mp hh
 unfold sliceV at h
 rw [if_neg (by rw [hnn]; simp)] at h
 cases x with
 | AN =>
  have ex := hx.AN
  subst ex
  simp only [] at h
  split at h
  ·rename_i h1 h2 h3
   simp only [Option.some.injEq] at h
   subst h
   refine ⟨_, VR.RG, fun w => ?_⟩
   have := Kf (P := P) (sl := true) (len := 0) (cap := 0) (cap' := 0) (m := 0) (h := 0) (l := 0) rlo rhi rmx (Nat.le_refl _) h1 (by rw [h2]; simp) hnn h3 w
   unfold Instr.slice
   simp only [Sem.run_bind, Av hu, Result.andThen_ok, this, CE hq]
   cases mx <;> simp
  ·cases h
 | slc b off len cap tt sz =>
  simp only [VR] at hx
  obtain ⟨a, c, ex, k1, k2, k3, k45⟩ := hx
  subst ex
  simp only [] at h
  split at h
  ·cases h
  rename_i hsize
  simp only [ne_eq, Decidable.not_not] at hsize
  split at h
  ·rename_i m hm
   split at h
   ·rename_i hh' hh
    split at h
    ·rename_i l hl
     simp only [Option.some.injEq] at h
     subst h
     have hrun := fun w => Kf (P := P) (sl := true) (len := len) (cap := cap) (cap' := c) rlo rhi rmx k2 hm hh hnn hl w
     have hml : m ≤ cap := Ng hm (Nat.le_refl _)
     have hhm : hh' ≤ m := by
      cases mx with
      | none =>
       obtain rfl := DS hm
       simp only [Option.isSome_none, Bool.false_eq_true, if_false] at hh
       exact Ng hh k1
      | some mx =>
       simp only [Option.isSome_some, if_true] at hh
       cases hi with
       | none => simp at hnn
       | some hi => obtain ⟨k, i, rfl, i0, i1, rfl⟩ := Dt hh; omega
     have hlh : l ≤ hh' := Ng hl (Nat.zero_le _)
     refine ⟨.slice (some (if (if mx.isSome then m else c) = l then a else a.add (l * size))) (hh' - l) ((if mx.isSome then m else c) - l), ?_, fun w => ?_⟩
     ·simp only [VR]
      have hM : (if mx.isSome then m else c) ≤ c := by split <;> omega
      have hM2 : m ≤ (if mx.isSome then m else c) := by
       cases mx with
       | none => simp; obtain rfl := DS hm; exact k2
       | some _ => simp
      have hT : (tt || mx.isSome) = true → (if mx.isSome then m else c) = m := fun ht => by
       cases mx with
       | none =>
        simp only [Option.isSome_none, Bool.or_false] at ht
        obtain rfl := DS hm
        simp [k3 ht]
       | some _ => simp
      generalize (if mx.isSome then m else c) = M at hM hM2 hT ⊢
      refine ⟨_, M - l, rfl, by omega, by omega, fun ht => by rw [hT ht], ?_⟩
      rcases k45 with ⟨q1, q2⟩ | ⟨y, o, hy, ea, k4, k5⟩
      ·exact .inl ⟨by rw [q1]; rfl, by omega⟩
      refine .inr ⟨y, if M = l then o else o + l * size, hy, ?_, ?_, ?_⟩
      ·subst ea
       rw [GZ]
       split <;> simp [Nat.add_assoc]
      ·rw [hsize]
       split
       ·rename_i he
        rw [he, Nat.sub_self, Nat.zero_mul]
        omega
       ·have hcm : (M - l) * size + l * size ≤ c * size := by
         rw [← Nat.add_mul]
         exact Nat.mul_le_mul_right _ (by omega)
        rw [hsize] at k4
        omega
      ·intro h0
       have hne : M ≠ l := by omega
       rw [if_neg hne, k5 (by omega)]
     ·unfold Instr.slice
      simp only [Sem.run_bind, Av hu, Result.andThen_ok, hrun w, CE hq, Sem.run_pure, hsz]
      generalize (if mx.isSome then m else c) = M
      simp only [Option.map_some]
      split <;> rfl
    ·cases h
   ·cases h
  ·cases h
 | _ => simp at h
theorem Rc {t : Nat} (hu : P.underlying t = some .string) {s : ByteArray} {v : V} {lo hi : Option V} {lo' hi' : Option Value}
  (rlo : OptR μ lo lo') (rhi : OptR μ hi hi') (h : Rb s lo hi = some v) : ∃ cv, VR μ v cv ∧ ∀ w, (Instr.slice t (.string s) lo' hi' none).run P w = .ok cv w := by
 unfold Rb at h
 split at h
 ·rename_i hh h1
  split at h
  ·rename_i l h2
   simp only [Option.some.injEq] at h
   subst h
   refine ⟨_, VR.MK _, fun w => ?_⟩
   have := Kf (P := P) (sl := false) (len := s.size) (cap := s.size) (cap' := s.size) (m := s.size) (h := hh) (l := l) (mx := none) (mx' := none) rlo rhi rfl (Nat.le_refl _) rfl (by simpa using h1) rfl h2 w
   unfold Instr.slice
   simp [Av hu, this]
  ·cases h
 ·cases h
theorem SK {t : Nat} {i : TI} (f : i.fits P t) : ∃ d, P.underlying t = some d := by
 have := f.kind
 cases hk : i.k <;> rw [hk] at this <;> simp only [TK.fits] at this
 case strct => obtain ⟨F, _, h, _⟩ := this; exact ⟨_, h⟩
 case ptr => obtain ⟨e, h⟩ := this; exact ⟨_, h⟩
 case map => obtain ⟨_, _, _, h, _⟩ := this; exact ⟨_, h⟩
 case other => obtain ⟨d, h, _⟩ := this; exact ⟨_, h⟩
 all_goals exact ⟨_, this⟩
theorem HQ {ρc : Operand → Value} {o : Oper} {b : Builtin} {xs : Array Operand} {ts : Array TypeId} (ho : o.op = .call { callee := .builtin b, args := xs, argTypes := ts }) {w : World} {r : Result Next}
  (h : (builtin b ts o.type (xs.map fun | .const _ => true | _ => false) (xs.map ρc)).run P w = r) : (execOp ρc o).run P w = r := by
 simp only [execOp, ho, resolve, invoke, Sem.run_bind, Sem.run_pure, Result.andThen_ok]
 exact h
theorem VRs.one {v : V} {ws : List Value} (h : VRs μ [v] ws) : ∃ w, ws = [w] ∧ VR μ v w := by
 simp only [VRs] at h
 obtain ⟨w, ws', rfl, h1, rfl⟩ := h
 exact ⟨w, rfl, h1⟩
theorem VRs.two {v u : V} {ws : List Value} (h : VRs μ [v, u] ws) : ∃ w x, ws = [w, x] ∧ VR μ v w ∧ VR μ u x := by
 simp only [VRs] at h
 obtain ⟨w, ws', rfl, h1, x, ws'', rfl, h2, rfl⟩ := h
 exact ⟨w, x, rfl, h1, h2⟩
theorem BG {α : Type} {a : Array α} {l : List α} (h : a.toList = l) : a = l.toArray := by subst h; simp
theorem Nh (fit : Fits P T) {b : Builtin} {ts : Array Nat} {xs : List V} {cs : Array Value} {v : V} (hx : VRs μ xs cs.toList) (h : builtinP T b ts.toList xs = some v) (ty : TypeId) (consts : Array Bool) :
  ∃ cv, VR μ v cv ∧ ∀ w, (builtin b ts ty consts cs).run P w = .ok (.value cv) w := by
 generalize htl : ts.toList = tl at h
 unfold builtinP at h
 split at h
 ·rename_i t s
  split at h
  ·rename_i hT
   simp only [Option.some.injEq] at h; subst h
   obtain ⟨c, ec, hc⟩ := hx.one
   rw [BG ec, BG htl, hc.str]
   refine ⟨_, VR.Cu _ _, fun w => ?_⟩
   have hu : P.underlying t = some .string := (fit _ _ hT).kind
   simp [builtin, Builtin.len_, Av hu, goInt]
  ·cases h
 ·rename_i t _ _ n _ _ _
  split at h
  ·rename_i hT
   simp only [Option.some.injEq] at h; subst h
   obtain ⟨c, ec, hc⟩ := hx.one
   simp only [VR] at hc
   obtain ⟨_, _, ev, _⟩ := hc
   rw [BG ec, BG htl, ev]
   refine ⟨_, VR.Cu _ _, fun w => ?_⟩
   have hu : P.underlying t = some (.slice _) := (fit _ _ hT).kind
   simp [builtin, Builtin.len_, Av hu, goInt]
  ·cases h
 ·rename_i t
  split at h
  ·rename_i hT
   simp only [Option.some.injEq] at h; subst h
   obtain ⟨c, ec, hc⟩ := hx.one
   rw [BG ec, BG htl, hc.AN]
   refine ⟨_, VR.Cu _ _, fun w => ?_⟩
   have hu : P.underlying t = some (.slice _) := (fit _ _ hT).kind
   simp [builtin, Builtin.len_, Av hu, goInt]
  ·cases h
 ·rename_i t _ _ _ n _
  split at h
  ·rename_i hT
   simp only [Option.some.injEq] at h; subst h
   obtain ⟨c, ec, hc⟩ := hx.one
   simp only [VR] at hc
   obtain ⟨_, cc, ev, _, _, hcc, _⟩ := hc
   rw [BG ec, BG htl, ev, hcc trivial]
   refine ⟨_, VR.Cu _ _, fun w => ?_⟩
   have hu : P.underlying t = some (.slice _) := (fit _ _ hT).kind
   simp [builtin, Builtin.cap_, Av hu, goInt]
  ·cases h
 ·rename_i t
  split at h
  ·rename_i hT
   simp only [Option.some.injEq] at h; subst h
   obtain ⟨c, ec, hc⟩ := hx.one
   rw [BG ec, BG htl, hc.AN]
   refine ⟨_, VR.Cu _ _, fun w => ?_⟩
   have hu : P.underlying t = some (.slice _) := (fit _ _ hT).kind
   simp [builtin, Builtin.cap_, Av hu, goInt]
  ·cases h
 ·simp only [Option.some.injEq] at h; subst h
  obtain ⟨c, d, ec, hc, hd⟩ := hx.two
  rw [BG ec, hc.int, hd.int]
  exact ⟨_, VR.Cu _ _, fun w => by simp [builtin, Builtin.min_, Builtin.min2]⟩
 ·simp only [Option.some.injEq] at h; subst h
  obtain ⟨c, d, ec, hc, hd⟩ := hx.two
  rw [BG ec, hc.int, hd.int]
  exact ⟨_, VR.Cu _ _, fun w => by simp [builtin, Builtin.max_, Builtin.max2]⟩
 ·cases h
theorem XG {w : Option Value} (h : OptR μ none w) : w = none := h
theorem MG {t : Nat} {i : TI} (f : i.fits P t) (w : World) : (isAgg t).run P w = .ok i.k.agg w := by
 have hk := f.kind
 cases hki : i.k <;> rw [hki] at hk <;> simp only [TK.fits] at hk
 case strct => obtain ⟨F, _, h, _⟩ := hk; simp [isAgg, Av h, TK.agg]
 case ptr => obtain ⟨e, h⟩ := hk; simp [isAgg, Av h, TK.agg]
 case map => obtain ⟨_, _, _, h, _⟩ := hk; simp [isAgg, Av h, TK.agg]
 case other =>
  obtain ⟨d, h, h1, h2⟩ := hk
  cases d <;> first | (exact absurd rfl (h1 _)) | (exact absurd rfl (h2 _ _)) | simp [isAgg, Av h, TK.agg]
 all_goals simp [isAgg, Av hk, TK.agg]
theorem Ui (fit : Fits P T) {ρ : Operand → Option V} {ρc : Operand → Value} (hρ : ∀ x v, ρ x = some v → VR μ v (ρc x)) {o : Oper} {v : V} (h : pureOp T ρ o.op = some v) :
  ∃ cv, VR μ v cv ∧ ∀ w, (execOp ρc o).run P w = .ok (.value cv) w := by
 cases ho : o.op <;> rw [ho] at h <;> simp only [pureOp, reduceCtorEq] at h
 case move x => exact ⟨_, hρ x v h, fun w => by simp only [execOp, ho]; rfl⟩
 case assign x => exact ⟨_, hρ x v h, fun w => by simp only [execOp, ho]; rfl⟩
 case pick c a b =>
  split at h
  ·rename_i hc ha hb
   simp only [Option.some.injEq] at h
   have ec := (hρ _ _ hc).bool
   rename_i cb xa xb
   refine ⟨if cb then ρc a else ρc b, ?_, fun w => ?_⟩
   ·subst h; split
    ·exact hρ _ _ ha
    ·exact hρ _ _ hb
   ·simp only [execOp, ho, ec]
    simp [asBool]
  ·cases h
 case build t parts =>
  split at h
  ·rename_i hT hps
   simp only [Option.map_eq_some_iff] at h
   obtain ⟨cs', hf, rfl⟩ := h
   have f := fit _ _ hT
   obtain ⟨q, z, hq, q1, q2, q3, q4, q5, q6⟩ := f.info
   obtain ⟨F, places, hu, hF, hpl⟩ := f.kind
   have hparts := HZ hρ _ hps
   obtain ⟨ws', k1, k2, k3, k4⟩ := KN (pl := structPlace T _) (pl' := (places.toArray[·]?)) (fun i p hp => by
    unfold structPlace at hp
    split at hp
    ·rename_i ft off hfs
     split at hp
     ·rename_i fi hfi
      simp only [Option.some.injEq] at hp
      subst hp
      obtain ⟨fd, e1, e2, e3⟩ := Qo hF hfs
      obtain ⟨qq, g1, g2⟩ := OV hpl i fd (by simpa using e1)
      obtain ⟨qf, zf, hqf, qf1, _⟩ := (fit _ _ hfi).info
      rw [e2] at g1
      obtain rfl : qq = qf := Option.some.inj (g1.symm.trans hqf)
      simp only [List.getElem?_toArray, g2, e3, qf1]
     ·cases hp
    ·cases hp) _ _ (q4 μ) q5 hparts hf
   refine ⟨.agg ws', by simp only [VR]; exact ⟨ws', rfl, k3, k2⟩, fun w => ?_⟩
   simp only [execOp, ho]
   refine Bd (run_build w t _ ws' ?_)
   simp only [Program.built, hq, hu, q3, hpl]
   simpa using k1
  ·cases h
 case nilCheck x =>
  split at h
  ·rename_i b off hx
   simp only [Option.some.injEq] at h
   subst h
   have hv := hρ _ _ hx
   have hv' := hv
   simp only [VR] at hv'
   obtain ⟨y, _, ey⟩ := hv'
   exact ⟨_, hv, fun w => by simp only [execOp, ho, ey]; rfl⟩
  ·cases h
 case binOp op t x y u =>
  split at h
  ·rename_i a b ha hb
   exact VD fit ho (hρ _ _ ha) (hρ _ _ hb) h
  ·cases h
 case unOp op t x =>
  split at h
  ·rename_i a ha
   have hv := hρ _ _ ha
   unfold vun at h
   split at h
   ·simp only [Option.some.injEq] at h; subst h
    have e := hv.int
    exact ⟨_, VR.Cu _ _, fun w => by simp only [execOp, ho, e]; exact Bd (by simp [Op.unary, Op.intArith])⟩
   ·simp only [Option.some.injEq] at h; subst h
    have e := hv.int
    exact ⟨_, VR.Cu _ _, fun w => by simp only [execOp, ho, e]; exact Bd (by simp [Op.unary, Op.intBits])⟩
   ·simp only [Option.some.injEq] at h; subst h
    have e := hv.bool
    exact ⟨_, VR.Ed _, fun w => by simp only [execOp, ho, e]; exact Bd (by simp [Op.unary])⟩
   ·cases h
  ·cases h
 case convert s d x =>
  split at h
  ·rename_i hS hT hx
   simp only [Option.some.injEq] at h; subst h
   have e := (hρ _ _ hx).int
   have hu : P.underlying d = some (.int _) := (fit _ _ hT).kind
   obtain ⟨ds, hs⟩ := SK (fit _ _ hS)
   exact ⟨_, VR.Cu _ _, fun w => by simp only [execOp, ho, e]; exact Bd (by simp [Go.convert, Av hu, Av hs, Conv.intToInt])⟩
  ·rename_i hS hT hx
   simp only [Option.some.injEq] at h; subst h
   have e := (hρ _ _ hx).str
   have hu : P.underlying d = some .string := (fit _ _ hT).kind
   obtain ⟨ds, hs⟩ := SK (fit _ _ hS)
   exact ⟨_, VR.MK _, fun w => by simp only [execOp, ho, e]; exact Bd (by simp [Go.convert, Av hu, Av hs])⟩
  ·cases h
 case makeFunc fn first caps =>
  cases fn <;> simp only [pureOp, reduceCtorEq] at h
  split at h
  ·rename_i hf hc
   simp only [Option.some.injEq] at h; subst h
   have hcap := FT hρ _ hc
   refine ⟨_, ?_, fun w => by simp only [execOp, ho]; exact Bd rfl⟩
   simp only [VR]
   exact ⟨caps.map ρc, by rw [BG hf]; simp, by simpa using hcap⟩
  ·cases h
 case slice t x lo hi mx =>
  split at h
  ·rename_i hT hx hlo hhi hmx
   split at h
   ·rename_i hE
    obtain ⟨q, z, hq, q1, _⟩ := (fit _ _ hE).info
    obtain ⟨cv, h1, h2⟩ := Re (fit _ _ hT).kind hq q1 (hρ _ _ hx) (Er hρ hlo) (Er hρ hhi) (Er hρ hmx) h
    refine ⟨cv, h1, fun w => ?_⟩
    simp only [execOp, ho]
    refine Bd ?_
    simp only [Instr.sliceAt, Sem.run_bind, Av (fit _ _ hT).kind, Result.andThen_ok]
    exact h2 w
   ·cases h
  ·rename_i hT hx hlo hhi hmx
   have hu : P.underlying t = some .string := (fit _ _ hT).kind
   obtain ⟨cv, h1, h2⟩ := Rc hu (Er hρ hlo) (Er hρ hhi) h
   have hm := XG (Er hρ hmx)
   refine ⟨cv, h1, fun w => ?_⟩
   simp only [execOp, ho, hm, (hρ _ _ hx).str]
   refine Bd ?_
   simp only [Instr.sliceAt, Sem.run_bind, Av hu, Result.andThen_ok]
   exact h2 w
  ·cases h
 case fieldAddr t x f =>
  split at h
  ·rename_i hT hx
   split at h
   ·rename_i ft fo hf
    split at h
    ·rename_i hF
     split at h
     ·cases h
     ·rename_i hz
      simp only [Option.some.injEq] at h; subst h
      obtain ⟨F, places, hu, hFs, _⟩ := (fit _ _ hT).kind
      obtain ⟨fd, e1, e2, e3⟩ := Qo hFs hf
      obtain ⟨q, z, hq, q1, _⟩ := (fit _ _ hF).info
      have hv := hρ _ _ hx
      simp only [VR] at hv
      obtain ⟨y, hy, ey⟩ := hv
      refine ⟨.pointer (some ⟨y.B, y.o + (_ + fo), none⟩), by simp only [VR]; exact ⟨y, hy, rfl⟩, fun w => ?_⟩
      simp only [execOp, ho, ey]
      refine Bd ?_
      have hq' : P.info? fd.type = some q := by rw [e2]; exact hq
      simp only [Instr.fieldAt, Sem.run_bind, Av hu, Result.andThen_ok, e1, Instr.sureAddr, Sem.run_pure, fieldPlace, CE hq']
      rw [if_neg (by rw [q1]; exact hz)]
      simp [GZ, e3, Nat.add_assoc]
    ·cases h
   ·cases h
  ·cases h
 case indexAddr t x ix =>
  split at h
  ·rename_i hT hx hi
   split at h
   ·rename_i hE
    split at h
    ·rename_i hb
     simp only [Option.some.injEq] at h; subst h
     have hu : P.underlying t = some (.slice _) := (fit _ _ hT).kind
     obtain ⟨q, z, hq, q1, _⟩ := (fit _ _ hE).info
     have hv := hρ _ _ hx
     simp only [VR] at hv
     obtain ⟨a, c, ey, k1, k2, k3, k45⟩ := hv
     rcases k45 with ⟨_, q2⟩ | ⟨y, oo, hy, rfl, k4, k5⟩
     ·omega
     have hoff := k5 (by omega)
     subst hoff
     refine ⟨.pointer (some ⟨y.B, y.o + (oo + _ * _), none⟩), by simp only [VR]; exact ⟨y, hy, rfl⟩, fun w => ?_⟩
     simp only [execOp, ho, ey, (hρ _ _ hi).int]
     refine Bd ?_
     simp only [Instr.indexAt, asIntOf, Sem.run_bind, Av hu, Result.andThen_ok, Sem.run_pure]
     simp [hb, CE hq, q1, GZ, Nat.add_assoc]
    ·cases h
   ·cases h
  ·rename_i hT hx hi
   split at h
   ·rename_i hE
    split at h
    ·rename_i hb
     simp only [Option.some.injEq] at h; subst h
     have hu : P.underlying t = some (.array _ _) := (fit _ _ hT).kind
     obtain ⟨q, z, hq, q1, _⟩ := (fit _ _ hE).info
     have hv := hρ _ _ hx
     simp only [VR] at hv
     obtain ⟨y, hy, ey⟩ := hv
     refine ⟨.pointer (some ⟨y.B, y.o + (_ + _ * _), none⟩), by simp only [VR]; exact ⟨y, hy, rfl⟩, fun w => ?_⟩
     simp only [execOp, ho, ey, (hρ _ _ hi).int]
     refine Bd ?_
     simp only [Instr.indexAt, asIntOf, Sem.run_bind, Av hu, Result.andThen_ok, Sem.run_pure, Instr.sureAddr]
     simp [hb, CE hq, q1, GZ, Nat.add_assoc]
    ·cases h
   ·cases h
  ·cases h
 case index t x ix =>
  split at h
  ·rename_i hT hx hi
   split at h
   ·rename_i h0
    simp only [Option.map_eq_some_iff] at h
    obtain ⟨b, hb, rfl⟩ := h
    have hu : P.underlying t = some .string := (fit _ _ hT).kind
    refine ⟨_, VR.Cu _ _, fun w => ?_⟩
    simp only [execOp, ho, (hρ _ _ hx).str, (hρ _ _ hi).int]
    refine Bd ?_
    simp only [Instr.index, asIntOf, Sem.run_bind, Av hu, Result.andThen_ok, Sem.run_pure]
    simp [h0, hb]
   ·cases h
  ·cases h
 case field t x f =>
  split at h
  ·rename_i hT hx
   split at h
   ·rename_i ft fo hf
    split at h
    ·rename_i i hF
     split at h
     ·rename_i hl
      obtain ⟨F, places, hu, hFs, _⟩ := (fit _ _ hT).kind
      obtain ⟨fd, e1, e2, e3⟩ := Qo hFs hf
      obtain ⟨q, z, hq, q1, _⟩ := (fit _ _ hF).info
      have hv := hρ _ _ hx
      simp only [VR] at hv
      obtain ⟨cw, ey, hone, hc⟩ := hv
      have hag := MG (fit _ _ hF)
      split at h
      ·rename_i ha
       simp only [Option.some.injEq] at h
       subst h
       refine ⟨.agg (cw.extract fo (fo + i.size)), ?_, fun w => ?_⟩
       ·simp only [VR]
        refine ⟨_, rfl, fun c hc => hone c (List.mem_of_mem_drop (List.mem_of_mem_take hc)), ?_⟩
        have := (hc.drop fo).take i.size
        simpa [Array.toList_extract, List.extract, Nat.add_sub_cancel_left] using this
       ·simp only [execOp, ho, ey]
        refine Bd ?_
        simp [Instr.field, Av hu, e1, e2, e3, part, asAgg, hag, ha, CE hq, q1]
      ·rename_i ha
       obtain ⟨u, hu2, hr⟩ := hc.get h
       refine ⟨u, hr, fun w => ?_⟩
       simp only [execOp, ho, ey]
       refine Bd ?_
       simp only [Array.getElem?_toList] at hu2
       have ha' : i.k.agg = false := by simpa using ha
       simp [Instr.field, Av hu, e1, e2, e3, part, asAgg, hag, ha', hu2]
     ·cases h
    ·cases h
   ·cases h
  ·cases h
 case extract x i =>
  split at h
  ·rename_i hx
   have hv := hρ _ _ hx
   simp only [VR] at hv
   obtain ⟨cw, ey, hc⟩ := hv
   obtain ⟨u, hu, hr⟩ := hc.get h
   refine ⟨u, hr, fun w => ?_⟩
   simp only [execOp, ho, ey]
   refine Bd ?_
   simp only [Array.getElem?_toList] at hu
   simp [Instr.extract, hu]
  ·cases h
 case call c =>
  obtain ⟨callee, xs, ts⟩ := c
  cases callee <;> simp only [pureOp, reduceCtorEq] at h
  rename_i b
  split at h
  ·rename_i hx
   have hxs := FT hρ _ hx
   obtain ⟨cv, h1, h2⟩ := Nh (cs := xs.map ρc) fit (by simpa using hxs) h o.type (xs.map fun | .const _ => true | _ => false)
   exact ⟨cv, h1, fun w => HQ ho (h2 w)⟩
  ·cases h
end Go.Proofs.YtncjbjlmgnjhiaaGreat.VM
namespace Go.Proofs.YtncjbjlmgnjhiaaGreat.VM
open Go
set_option linter.unusedVariables false
set_option linter.unusedSimpArgs false
variable {P : Program} {T : Tab} {μ : Mu}
def Nx (μ : Mu) (v : V) (nx : Next) : Prop := (∃ cv, nx = .value cv ∧ VR μ v cv) ∨ (nx = .skip ∧ v = V.undef)
def Ix (P : Program) (μ : Mu) (H : Heap) (w : World) (s : Sem Next) (v : V) (H' : Heap) : Prop :=
 ∃ nx w' μ', s.run P w = .ok nx w' ∧ Nx μ' v nx ∧ Sim μ' H' w' ∧ Tr μ H w μ' H' w'
theorem Ix.EW {H H' : Heap} {w : World} {s : Sem Value} {v : V} (h : ∃ cv w' μ', s.run P w = .ok cv w' ∧ VR μ' v cv ∧ Sim μ' H' w' ∧ Tr μ H w μ' H' w') :
  Ix P μ H w (do pure (Next.value (← s))) v H' := by
 obtain ⟨cv, w', μ', h1, h2, h3, h4⟩ := h
 exact ⟨_, w', μ', Bd h1, .inl ⟨cv, rfl, h2⟩, h3, h4⟩
theorem EK (z : List V) (n : Nat) : (Bw z n).length = n * z.length := by
 simp [Bw]
theorem VK (z : List V) (n : Nat) : Bw z (n + 1) = z ++ Bw z n := by simp [Bw, List.replicate_succ]
theorem QT (z : List V) : ∀ (n i : Nat), i < n * z.length → (Bw z n)[i]? = z[i % z.length]?
 | 0, i, h => by simp at h
 | n + 1, i, h => by
  rw [VK]
  by_cases hi : i < z.length
  ·rw [List.getElem?_append_left hi, Nat.mod_eq_of_lt hi]
  ·rw [List.getElem?_append_right (by omega), QT z n (i - z.length) (by rw [Nat.add_mul] at h; omega), ← Nat.mod_eq_sub_mod (by omega)]
theorem Ij {z : List V} (h : ∀ c ∈ z, c.one = true) (n : Nat) : ∀ c ∈ Bw z n, c.one = true := fun c hc => by
 simp only [Bw, List.mem_flatten, List.mem_replicate] at hc
 obtain ⟨l, ⟨_, rfl⟩, hl⟩ := hc
 exact h c hl
theorem HX {z : List V} {zc : Array Value} (h : VRs μ z zc.toList) (n : Nat) : VRs μ (Bw z n) ((Array.range (n * zc.size)).map fun i => zc[i % zc.size]!).toList := by
 have hl : zc.size = z.length := by simpa using h.length
 refine VRs.KY (by simp [EK, hl]) fun i v hi => ?_
 have hlt : i < n * z.length := by
  rw [← EK z n]; exact (List.getElem?_eq_some_iff.1 hi).1
 rw [QT z n i hlt] at hi
 obtain ⟨u, hu, hr⟩ := h.get hi
 rw [← hl] at hu
 refine ⟨u, ?_, hr⟩
 have hp : 0 < zc.size := by
  apply Nat.pos_of_ne_zero
  intro e
  rw [hl] at e
  rw [e] at hlt
  simp at hlt
 have hm : i % zc.size < zc.size := Nat.mod_lt _ hp
 simp only [Array.getElem?_toList] at hu
 simp only [Array.toList_map, List.getElem?_map, Array.getElem?_toList]
 rw [Array.getElem?_range, if_pos (by rw [hl]; exact hlt)]
 simp only [Option.map_some]
 rw [Array.getElem!_eq_getD, Array.getD_eq_getD_getElem?, hu]
 rfl
theorem EB (e : TypeId) (cs : Array Value) (w : World) : (newRow e cs).run P w = .ok ⟨w.heap.size, 0, none⟩ (w.alloc (.cells cs e)) := rfl
theorem Jj {H : Heap} {w : World} (s : Sim μ H w) (e : TypeId) (cs : List V) (cvs : Array Value) (h : VRs μ cs cvs.toList) (h1 : ∀ c ∈ cs, c.one = true) :
  ∃ μ', μ' H.length = some ⟨w.heap.size, 0, cs.length⟩ ∧ Sim μ' (H ++ [.row cs true]) (w.alloc (.cells cvs e)) ∧ Tr μ H w μ' (H ++ [.row cs true]) (w.alloc (.cells cvs e)) := by
 have hl : cvs.size = cs.length := by simpa using h.length
 refine ⟨_, Mu.De _ _ _, WJ s cs true cs.length cvs e (0, 0) (Nat.le_refl _) (by omega) (fun i v hi => ?_) (fun _ i => by simp)⟩
 obtain ⟨u, hu, hr⟩ := h.get hi
 exact ⟨h1 v (List.mem_of_getElem? hi), u, by simpa using hu, hr⟩
theorem load_sound (fit : Fits P T) {H : Heap} {w : World} (s : Sim μ H w) {t : Nat} {i : TI} (hT : T t = some i) {b off : Nat} {x : Loc} (hx : μ b = some x) {v : V}
  (h : (if i.k.agg then (H.loadN b off i.size).map fun cs => (V.agg cs, H) else match H.loadN b off 1 with | some [v] => some (v, H) | _ => none) = some (v, H)) :
  ∃ cv, (loadVar t ⟨x.B, x.o + off, none⟩).run P w = .ok cv w ∧ VR μ v cv := by
 obtain ⟨q, z, hq, q1, _⟩ := (fit _ _ hT).info
 split at h
 ·rename_i ha
  simp only [Option.map_eq_some_iff, Prod.mk.injEq, and_true] at h
  obtain ⟨cs, hcs, rfl⟩ := h
  obtain ⟨ws, k1, k2, k3, _⟩ := KA P s hx hcs
  refine ⟨.agg ws, ?_, by simp only [VR]; exact ⟨ws, rfl, k3, k2⟩⟩
  simp [loadVar, MG (fit _ _ hT), ha, CE hq, q1, k1 w rfl]
 ·rename_i ha
  split at h
  ·rename_i u hu
   simp only [Option.some.injEq, Prod.mk.injEq, and_true] at h
   subst h
   unfold Heap.loadN at hu
   split at hu
   ·rename_i cs wr hb
    split at hu
    ·rename_i hl
     simp only [Option.some.injEq] at hu
     have hlt : off < cs.length := by omega
     rw [List.drop_eq_getElem_cons hlt, List.take_succ_cons] at hu
     simp only [List.take_zero, List.cons.injEq, and_true] at hu
     obtain ⟨h1, cv, h2, h3⟩ := s.row b x cs wr hx hb off u (by rw [← hu]; simp [hlt])
     refine ⟨cv, ?_, h3⟩
     have hag : i.k.agg = false := by simpa using ha
     simp [loadVar, MG (fit _ _ hT), hag, h2]
    ·cases hu
   ·cases hu
  ·cases h
theorem Tf (fit : Fits P T) {H H' : Heap} {w : World} (s : Sim μ H w) {t : Nat} {i : TI} (hT : T t = some i) {b off : Nat} {x : Loc} (hx : μ b = some x) {v : V} {cv : Value} (hv : VR μ v cv) (ht : v.isTup = false)
  (hl : v.cells.length = i.size) (h : H.storeN b off v.cells = some H') :
  ∃ w', (storeVar t ⟨x.B, x.o + off, none⟩ cv).run P w = .ok () w' ∧ Sim μ H' w' ∧ Tr μ H w μ H' w' := by
 obtain ⟨q, z, hq, q1, _⟩ := (fit _ _ hT).info
 obtain ⟨hc, h1⟩ := VR.cells hv (fun vs e => by subst e; simp [V.isTup] at ht)
 obtain ⟨w', k1, k2, k3⟩ := Io P s hx h hc h1
 refine ⟨w', ?_, k2, k3⟩
 have hsz : cv.cells.size = i.size := by have := hc.length; simp only [Array.length_toList] at this; omega
 simp [storeVar, CE hq, q1, hsz, k1]
theorem KB : ∀ {cs : List V} {bs : List UInt8}, V.toBytes cs = some bs → ∀ {ws : List Value}, VRs μ cs ws → ∃ ns : List Int, ws = ns.map (Value.int .u8) ∧ bs = ns.map fun n => UInt8.ofNat n.toNat
 | [], _, h, ws, hr => by
  simp only [VRs] at hr
  subst hr
  simp only [V.toBytes, Option.some.injEq] at h
  subst h
  exact ⟨[], rfl, rfl⟩
 | c :: cs, _, h, ws, hr => by
  simp only [VRs] at hr
  obtain ⟨u, ws', rfl, hu, hr'⟩ := hr
  cases c with
  | int k n =>
   cases k <;> simp only [V.toBytes, reduceCtorEq] at h
   split at h
   ·rename_i bs' hbs
    simp only [Option.some.injEq] at h
    subst h
    rw [hu.int]
    obtain ⟨ns, rfl, rfl⟩ := KB hbs hr'
    exact ⟨n :: ns, rfl, rfl⟩
   ·cases h
  | _ => simp [V.toBytes] at h
theorem foldl_push (ns : List Int) : ∀ acc : ByteArray, ns.foldl (fun r n => r.push (UInt8.ofNat n.toNat)) acc = ⟨acc.data ++ (ns.map fun n => UInt8.ofNat n.toNat).toArray⟩ := by
 induction ns with
 | nil => intro acc; simp
 | cons n ns ih => intro acc; simp only [List.foldl_cons]; rw [ih]; simp [ByteArray.push]
theorem Jv (s : ByteArray) : VRs μ (V.bytesOf s) (s.data.toList.map fun b => Value.int .u8 b.toNat) := by
 refine VRs.KY (by simp [V.bytesOf]) fun i v hi => ?_
 simp only [V.bytesOf, List.getElem?_map, Option.map_eq_some_iff] at hi
 obtain ⟨b, hb, rfl⟩ := hi
 exact ⟨.int .u8 b.toNat, by simp only [List.getElem?_map, hb, Option.map_some], VR.Cu _ _⟩
theorem Kp (s : ByteArray) : ∀ c ∈ V.bytesOf s, c.one = true := fun c hc => by
 simp only [V.bytesOf, List.mem_map] at hc
 obtain ⟨b, _, rfl⟩ := hc
 rfl
theorem bytesOf_length (s : ByteArray) : (V.bytesOf s).length = s.size := by simp [V.bytesOf]
theorem Sim.drew {H : Heap} {w : World} (s : Sim μ H w) : Sim μ H w.drew := s.of_heap rfl
theorem Tr.drew (H : Heap) (w : World) : Tr μ H w μ H w.drew := Tr.of_heap rfl rfl rfl rfl
theorem Pw {H : Heap} {w : World} (s : Sim μ H w) (e : TypeId) (fr : Nat × Nat) (wr : Bool) (cs : List V) (cvs rest : Array Value) (h : VRs μ cs cvs.toList) (h1 : ∀ c ∈ cs, c.one = true) (hf : wr = true → fr = (0, 0)) :
  ∃ μ', μ' H.length = some ⟨w.heap.size, 0, (cvs ++ rest).size⟩ ∧ Sim μ' (H ++ [.row cs wr]) (w.alloc (.cells (cvs ++ rest) e fr)) ∧ Tr μ H w μ' (H ++ [.row cs wr]) (w.alloc (.cells (cvs ++ rest) e fr)) := by
 have hl : cvs.size = cs.length := by simpa using h.length
 refine ⟨_, Mu.De _ _ _, WJ s cs wr (cvs ++ rest).size (cvs ++ rest) e fr (by simp; omega) (Nat.le_refl _) (fun i v hi => ?_) (fun hw i => ?_)⟩
 ·obtain ⟨u, hu, hr⟩ := h.get hi
  have hlt : i < cvs.size := by rw [hl]; exact (List.getElem?_eq_some_iff.1 hi).1
  exact ⟨h1 v (List.mem_of_getElem? hi), u, by rw [Array.getElem?_append_left hlt]; simpa using hu, hr⟩
 ·obtain rfl := hf hw
  simp
theorem Su {α : Type} (a : Array α) (x : α) (f : α → α) : (a.push x).modify a.size f = a.push (f x) := by
 apply Array.ext
 ·simp
 ·intro i h1 h2
  rw [Array.getElem_modify]
  by_cases hi : a.size = i
  ·subst hi; simp
  ·rw [if_neg hi]
   have : i < a.size := by simp at h2; omega
   rw [Array.getElem_push_lt this, Array.getElem_push_lt this]
theorem PM (w : World) (e : TypeId) (s : ByteArray) : Lib.bytesWorld w e s = w.drew.alloc (.cells (Lib.bytesCells w e s) e ((Lib.bytesCells w e s).size, (Lib.bytesCells w e s).size + 1)) := by
 unfold Lib.bytesWorld World.freeze World.alloc World.drew
 rw [if_neg (by decide)]
 simp only [Su]
 simp
theorem Xc {H : Heap} {w : World} (s : Sim μ H w) (e : TypeId) (b : ByteArray) :
  ∃ μ', VR μ' (.slc H.length 0 b.size b.size false 1) (.slice (some ⟨w.heap.size, 0, none⟩) b.size (grownCap w b.size 0 e)) ∧ Sim μ' (H ++ [.row (V.bytesOf b) false]) (Lib.bytesWorld w e b) ∧ Tr μ H w μ' (H ++ [.row (V.bytesOf b) false]) (Lib.bytesWorld w e b) := by
 have hge := grownCap_ge w b.size 0 e
 have hsz : (Lib.bytesCells w e b).size = grownCap w b.size 0 e := by
  have : b.data.size = b.size := rfl
  simp [Lib.bytesCells, this]; omega
 obtain ⟨μ', h1, h2, h3⟩ := Pw s.drew e ((Lib.bytesCells w e b).size, (Lib.bytesCells w e b).size + 1) false (V.bytesOf b) (b.data.map fun b => Value.int .u8 b.toNat) (Array.replicate (grownCap w b.size 0 e - b.size) (.int .u8 0))
  (by simpa using Jv b) (Kp b) (by simp)
 rw [PM]
 refine ⟨μ', ?_, h2, (Tr.drew H w).trans h3 (fun b x h => (s.lt b x h).1)⟩
 simp only [VR]
 refine ⟨_, grownCap w b.size 0 e, rfl, Nat.le_refl _, hge, nofun, .inr ⟨_, 0, h1, rfl, ?_, fun _ => rfl⟩⟩
 have : ((b.data.map fun b => Value.int .u8 b.toNat) ++ Array.replicate (grownCap w b.size 0 e - b.size) (Value.int .u8 0)).size = grownCap w b.size 0 e := hsz
 rw [this]; simp
theorem El (P : Program) (B : Nat) : ∀ (ws : List Value) (o j : Nat) (w : World), (∀ v ∈ ws, v.oneCell' = true) → (∀ i, j ≤ i → i < j + ws.length → (∃ u, w.cell? ⟨B, o + i, none⟩ = some u) ∧ w.frozen? ⟨B, o + i, none⟩ = false) →
  ∃ w', (storeCells ⟨B, o, none⟩ ws j).run P w = .ok () w' ∧ (∀ i v, ws[i]? = some v → w'.cell? ⟨B, o + (j + i), none⟩ = some v) ∧
   (∀ i, i < o + j ∨ o + j + ws.length ≤ i → w'.cell? ⟨B, i, none⟩ = w.cell? ⟨B, i, none⟩) ∧ (∀ a, w'.frozen? a = w.frozen? a) ∧ (∀ a, (∃ u, w.cell? a = some u) → ∃ u, w'.cell? a = some u) ∧
   (∀ B', B' ≠ B → w'.heap[B']? = w.heap[B']?) ∧ w'.heap.size = w.heap.size ∧ w'.os = w.os ∧ w'.tape = w.tape ∧ w'.output = w.output
 | [], o, j, w, _, _ => ⟨w, rfl, fun i v h => by simp at h, fun _ _ => rfl, fun _ => rfl, fun _ h => h, fun _ _ => rfl, rfl, rfl, rfl, rfl⟩
 | v :: ws, o, j, w, h1, h => by
  obtain ⟨⟨u, hu⟩, hf⟩ := h j (Nat.le_refl _) (by simp)
  have hsame := World.cell?_setCell_same w _ v hu
  obtain ⟨w', k1, k2, k3, k4, k5, k6, k7, k8, k9, k10⟩ := El P B ws o (j + 1) (w.setCell ⟨B, o + j, none⟩ v) (fun v hv => h1 v (by simp [hv])) (fun i hi hi2 => by
   obtain ⟨⟨u', hu'⟩, hf'⟩ := h i (by omega) (by simp; omega)
   refine ⟨⟨u', ?_⟩, by rw [World.frozen?_setCell]; exact hf'⟩
   rw [World.cell?_setCell_other _ _ _ _ (fun e => by injection e with _ e2 _; omega)]
   exact hu')
  refine ⟨w', ?_, ?_, ?_, ?_, ?_, ?_, ?_, ?_, ?_, ?_⟩
  ·simp only [storeCells, Sem.run_bind, GZ]
   rw [Lc P (h1 v (by simp)) hu hf]
   exact k1
  ·intro i x hi
   cases i with
   | zero =>
    simp at hi; subst hi
    rw [k3 _ (.inl (by omega))]
    exact hsame
   | succ i =>
    simp at hi
    have := k2 i x hi
    rw [show j + (i + 1) = j + 1 + i by omega]
    exact this
  ·intro i hi
   simp only [List.length_cons] at hi
   rw [k3 i (by omega), World.cell?_setCell_other _ _ _ _ (fun e => by injection e with _ e2 _; omega)]
  ·intro a; rw [k4, World.frozen?_setCell]
  ·intro a ⟨q, hq⟩
   refine k5 a ?_
   by_cases ha : (⟨B, o + j, none⟩ : Addr) = a
   ·subst ha; exact ⟨v, hsame⟩
   ·exact ⟨q, by rw [World.cell?_setCell_other _ _ _ _ ha]; exact hq⟩
  ·intro B' hB'
   rw [k6 B' hB']
   simp only [World.setCell, Array.getElem?_modify]
   rw [if_neg (fun e => hB' e.symm)]
  ·rw [k7]; simp
  ·rw [k8]; rfl
  ·rw [k9]; rfl
  ·rw [k10]; rfl
theorem QL {K : Heap} {w w' : World} (s : Sim μ K w) {y : Loc} {o : Nat} {cs : List V} (hB : y.B < w.heap.size)
  (hno : ∀ b x k, μ b = some x → K[b]? = some k → k ≠ .dead → x.B ≠ y.B)
  (hheap : ∀ B', B' ≠ y.B → w'.heap[B']? = w.heap[B']?) (hsize : w'.heap.size = w.heap.size)
  (ho : o ≤ y.n) (hl : cs.length ≤ y.n - o) (hext : ∀ i, i < y.n → ∃ u, w'.cell? ⟨y.B, y.o + i, none⟩ = some u) (hfree : ∀ i, w'.frozen? ⟨y.B, y.o + i, none⟩ = false)
  (hcs : ∀ (i : Nat) v, cs[i]? = some v → v.one = true ∧ ∃ cv, w'.cell? ⟨y.B, y.o + o + i, none⟩ = some cv ∧ VR μ v cv) :
  Sim (μ.put K.length ⟨y.B, y.o + o, y.n - o⟩) (K ++ [.row cs true]) w' := by
 have hle : Mu.Le μ (μ.put K.length ⟨y.B, y.o + o, y.n - o⟩) := Mu.KV _ s.Fl
 have cell : ∀ B i, B ≠ y.B → w'.cell? ⟨B, i, none⟩ = w.cell? ⟨B, i, none⟩ := fun B i h => by simp only [World.cell?, hheap B h]
 have frz : ∀ B i, B ≠ y.B → w'.frozen? ⟨B, i, none⟩ = w.frozen? ⟨B, i, none⟩ := fun B i h => by simp only [World.frozen?, hheap B h]
 have split : ∀ b x, μ.put K.length ⟨y.B, y.o + o, y.n - o⟩ b = some x → (b = K.length ∧ x = ⟨y.B, y.o + o, y.n - o⟩) ∨ (b ≠ K.length ∧ μ b = some x) := fun b x hx => by
  by_cases hb : b = K.length
  ·subst hb; rw [Mu.De] at hx; exact .inl ⟨rfl, (Option.some.inj hx).symm⟩
  ·rw [Mu.Kc _ hb] at hx; exact .inr ⟨hb, hx⟩
 have oldk : ∀ b k, b ≠ K.length → (K ++ [Blk.row cs true])[b]? = some k → K[b]? = some k := fun b k hb hk => by
  rcases ER hk with ⟨h1, _⟩ | ⟨_, h2⟩
  ·exact absurd h1 hb
  ·exact h2
 have newk : ∀ k, (K ++ [Blk.row cs true])[K.length]? = some k → k = .row cs true := fun k hk => by
  rcases ER hk with ⟨_, h2⟩ | ⟨h1, _⟩
  ·exact h2
  ·exact absurd h1 (Nat.lt_irrefl _)
 refine ⟨?_, ?_, ?_, ?_, ?_, ?_⟩
 ·intro b x hx
  rcases split b x hx with ⟨rfl, rfl⟩ | ⟨_, h⟩
  ·simp; omega
  ·have := s.lt b x h; simp; omega
 ·intro b x cs' wr' hx hb i v hi
  rcases split b x hx with ⟨rfl, rfl⟩ | ⟨hne, h⟩
  ·have := newk _ hb
   injection this with e1 e2
   subst e1
   obtain ⟨h1, cv, h2, h3⟩ := hcs i v hi
   exact ⟨h1, cv, h2, h3.mono hle⟩
  ·obtain ⟨h1, cv, h2, h3⟩ := s.row b x cs' wr' h (oldk _ _ hne hb) i v hi
   exact ⟨h1, cv, by rw [cell _ _ (hno b x _ h (oldk _ _ hne hb) (by simp))]; exact h2, h3.mono hle⟩
 ·intro b x cs' wr' hx hb
  rcases split b x hx with ⟨rfl, rfl⟩ | ⟨hne, h⟩
  ·have := newk _ hb
   injection this with e1 e2
   subst e1
   refine ⟨hl, fun i hi => ?_⟩
   rw [show y.o + o + i = y.o + (o + i) by omega]
   exact hext _ (by simp at hi; omega)
  ·obtain ⟨h2, h3⟩ := s.ext b x cs' wr' h (oldk _ _ hne hb)
   exact ⟨h2, fun i hi => by rw [cell _ _ (hno b x _ h (oldk _ _ hne hb) (by simp))]; exact h3 i hi⟩
 ·intro b x cs' hx hb i
  rcases split b x hx with ⟨rfl, rfl⟩ | ⟨hne, h⟩
  ·rw [show y.o + o + i = y.o + (o + i) by omega]
   exact hfree _
  ·rw [frz _ _ (hno b x _ h (oldk _ _ hne hb) (by simp))]; exact s.free b x cs' h (oldk _ _ hne hb) i
 ·intro b x k hx hb ho' b' x' k' hne' hx' hb' hd
  rcases split b x hx with ⟨rfl, rfl⟩ | ⟨hne, h⟩ <;> rcases split b' x' hx' with ⟨rfl, rfl⟩ | ⟨hne2, h'⟩
  ·exact absurd rfl hne'
  ·exact hno b' x' k' h' (oldk _ _ hne2 hb') hd
  ·exact fun e => hno b x k h (oldk _ _ hne hb) (fun e => by subst e; simp [Blk.own] at ho') e.symm
  ·exact s.sole b x k h (oldk _ _ hne hb) ho' b' x' k' hne' h' (oldk _ _ hne2 hb') hd
 ·intro b x es hx hb
  rcases split b x hx with ⟨rfl, rfl⟩ | ⟨hne, h⟩
  ·have := newk _ hb; cases this
  ·obtain ⟨m, cl, h1, h2⟩ := s.mp b x es h (oldk _ _ hne hb)
   exact ⟨m, cl, by rw [hheap _ (hno b x _ h (oldk _ _ hne hb) (by simp))]; exact h1, h2⟩
end Go.Proofs.YtncjbjlmgnjhiaaGreat.VM
namespace Go.Proofs.YtncjbjlmgnjhiaaGreat.VM
open Go
set_option linter.unusedVariables false
set_option linter.unusedSimpArgs false
variable {P : Program} {T : Tab} {μ : Mu}
def WV (zs : Bool) (elem size n : Nat) (x : Value) : Sem (Array Value) :=
 if !zs then Builtin.firstCells size n x
 else if n * size = 0 then pure #[]
 else do pure (Builtin.zeroCells (← zeroValue elem).cells n)
structure Xv (P : Program) (t2 elem bytes size n : Nat) (x : Value) (zs : Bool) (ws : Array Value) (w : World) : Prop where
 und : (zs = true ∧ ∃ k, P.underlying t2 = some (.int k)) ∨ (zs = false ∧ ((∃ e, P.underlying t2 = some (.slice e)) ∨ P.underlying t2 = some .string))
 num : (zs = true ∧ ∃ k m, x = .int k m ∧ 0 ≤ m ∧ m ≤ IntKind.i64.max ∧ m * bytes ≤ 2 ^ 48 ∧ m.toNat = n) ∨ (zs = false ∧ ∀ w, (Builtin.lenOf x).run P w = .ok n w)
 app : ∀ w', w'.heap = w.heap → (WV zs elem size n x).run P w' = .ok ws w'
theorem Na {m : Int} (h0 : 0 ≤ m) (h1 : m ≤ IntKind.i64.max) : IntKind.i64.wrap m = m := by
 have : m ≤ 9223372036854775807 := by simpa [IntKind.max, IntKind.signed, IntKind.bits] using h1
 obtain ⟨n, rfl⟩ := Int.eq_ofNat_of_zero_le h0
 exact NG (by omega)
theorem append_fits {t1 t2 elem bytes size n ty : Nat} {q : TypeInfo} (ht : P.underlying t1 = some (.slice elem)) (hq : P.info? elem = some q) (hs : q.size = size) (hb : q.bytes = bytes) {x : Value} {zs : Bool} {ws : Array Value} {w : World}
  (h : Xv P t2 elem bytes size n x zs ws w) {base : Option Addr} {sLen sCap : Nat} (hfit : sLen + n ≤ sCap) :
  (Builtin.append_ #[t1, t2] ty #[.slice base sLen sCap, x]).run P w = match base with
   | some a => ((storeCells (a.add (sLen * size)) ws.toList).run P w).andThen fun _ w' => .ok (.slice (some a) (sLen + n) sCap) w'
   | none => .ok (.slice none (sLen + n) sCap) w := by
 obtain ⟨hund, hnum, happ⟩ := h
 have ha := happ w rfl
 unfold WV at ha
 subst hs
 subst hb
 rcases hund with ⟨rfl, k2, hd⟩ | ⟨rfl, hd⟩
 ·rcases hnum with ⟨_, k, m, rfl, m0, m1, m2, m3⟩ | ⟨h', _⟩
  ·have hw := Na m0 m1
   simp only [Bool.not_true, Bool.false_eq_true, if_false] at ha
   unfold Builtin.append_
   simp only [List.getElem?_toArray, List.getElem?_cons_zero, List.getElem?_cons_succ, Av ht, Av hd, CE hq, Cq hq, Sem.run_bind, Result.andThen_ok, Sem.run_pure, if_true, asInt, asIntOf, hw, Bool.not_true, Bool.false_eq_true, if_false]
   rw [if_neg (by omega)]
   simp only [Sem.run_bind, Cq hq, Result.andThen_ok]
   rw [if_neg (by omega)]
   simp only [Sem.run_pure, Sem.run_bind, Result.andThen_ok, m3]
   rw [if_pos hfit]
   simp only [Sem.run_bind, ha, Result.andThen_ok]
   cases base <;> simp
  ·cases h'
 ·rcases hnum with ⟨h', _⟩ | ⟨_, hl⟩
  ·cases h'
  ·simp only [Bool.not_false, if_true] at ha
   rcases hd with ⟨e2, hd⟩ | hd
   all_goals
    unfold Builtin.append_
    simp only [List.getElem?_toArray, List.getElem?_cons_zero, List.getElem?_cons_succ, Av ht, Av hd, CE hq, Cq hq, Sem.run_bind, Result.andThen_ok, Sem.run_pure, if_true, Bool.false_eq_true, if_false, hl, Bool.not_false]
    rw [if_pos hfit]
    simp only [Sem.run_bind, ha, Result.andThen_ok]
    cases base <;> simp
theorem Kn {t1 t2 elem bytes size n ty : Nat} {q : TypeInfo} {z : Value} (ht : P.underlying t1 = some (.slice elem)) (hq : P.info? elem = some q) (hz : q.zero = some z) (hs : q.size = size) (hb : q.bytes = bytes) (hzs : z.cells.size = size) {x : Value} {zs : Bool} {ws old : Array Value} {w : World}
  (h : Xv P t2 elem bytes size n x zs ws w) {base : Option Addr} {sLen sCap : Nat} (hfit : sCap < sLen + n) (hold : (Builtin.firstCells size sLen (.slice base sLen sCap)).run P w.drew = .ok old w.drew)
  (hbytes : (sLen + n) * bytes ≤ 2 ^ 47) (hlen : sLen + n ≤ 2 ^ 47) :
  ∃ rest, (Builtin.append_ #[t1, t2] ty #[.slice base sLen sCap, x]).run P w = .ok (.slice (some ⟨w.heap.size, 0, none⟩) (sLen + n) (grownCap w (sLen + n) sCap elem)) (w.drew.alloc (.cells (old ++ ws ++ rest) elem)) ∧
   rest.size = (grownCap w (sLen + n) sCap elem - (sLen + n)) * size := by
 obtain ⟨hund, hnum, happ⟩ := h
 have ha := happ w.drew rfl
 unfold WV at ha
 subst hs
 subst hb
 have hnext : Builtin.nextslicecap (sLen + n) sCap * q.bytes ≤ 2 ^ 48 := by
  have := nextslicecap_le hfit
  calc _ ≤ 2 * (sLen + n) * q.bytes := Nat.mul_le_mul_right _ this
   _ = 2 * ((sLen + n) * q.bytes) := by rw [Nat.mul_assoc]
   _ ≤ 2 * 2 ^ 47 := Nat.mul_le_mul_left _ hbytes
 have hmax : ∀ {p : Prop}, ¬ ((↑(sLen + n) : Int) > IntKind.i64.max ∧ p) := by
  intro p hc
  have := hc.1
  simp [IntKind.max, IntKind.signed, IntKind.bits] at this
  omega
 refine ⟨Builtin.zeroCells z.cells (grownCap w (sLen + n) sCap elem - (sLen + n)), ?_, by simp [Builtin.zeroCells, hzs]⟩
 rcases hund with ⟨rfl, k2, hd⟩ | ⟨rfl, hd⟩
 ·rcases hnum with ⟨_, k, m, rfl, m0, m1, m2, m3⟩ | ⟨h', _⟩
  ·have hw := Na m0 m1
   simp only [Bool.not_true, Bool.false_eq_true, if_false] at ha
   unfold Builtin.append_
   simp only [List.getElem?_toArray, List.getElem?_cons_zero, List.getElem?_cons_succ, Av ht, Av hd, CE hq, Cq hq, Sem.run_bind, Result.andThen_ok, Sem.run_pure, if_true, asInt, asIntOf, hw, Bool.not_true, Bool.false_eq_true, if_false]
   rw [if_neg (by omega)]
   simp only [Sem.run_bind, Cq hq, Result.andThen_ok]
   rw [if_neg (by omega)]
   simp only [Sem.run_pure, Sem.run_bind, Result.andThen_ok, m3]
   rw [if_neg (by omega)]
   simp only [Sem.run_bind, Cq hq, Result.andThen_ok]
   rw [if_neg hmax]
   simp only [Sem.run_bind, Cq hq, Result.andThen_ok]
   rw [if_neg (by omega)]
   simp only [Sem.run_bind, run_choose, Question.forced, Bool.false_eq_true, if_false, Result.andThen_ok, run_askRoom, World.drew_eq, Cq hq]
   rw [hold]
   simp only [Result.andThen_ok]
   rw [ha]
   simp only [Result.andThen_ok, Fq hq hz, EB, Sem.run_pure, World.size_drew]
   rfl
  ·cases h'
 ·rcases hnum with ⟨h', _⟩ | ⟨_, hl⟩
  ·cases h'
  ·simp only [Bool.not_false, if_true] at ha
   rcases hd with ⟨e2, hd⟩ | hd
   all_goals
    unfold Builtin.append_
    simp only [List.getElem?_toArray, List.getElem?_cons_zero, List.getElem?_cons_succ, Av ht, Av hd, CE hq, Cq hq, Sem.run_bind, Result.andThen_ok, Sem.run_pure, if_true, Bool.false_eq_true, if_false, hl, Bool.not_false]
    rw [if_neg (by omega)]
    simp only [Sem.run_bind, Cq hq, Result.andThen_ok]
    rw [if_neg hmax]
    simp only [Sem.run_bind, Cq hq, Result.andThen_ok]
    rw [if_neg (by omega)]
    simp only [Sem.run_bind, run_choose, Question.forced, Bool.false_eq_true, if_false, Result.andThen_ok, run_askRoom, World.drew_eq, Cq hq]
    rw [hold]
    simp only [Result.andThen_ok]
    rw [ha]
    simp only [Result.andThen_ok, Fq hq hz, EB, Sem.run_pure, World.size_drew]
    rfl
end Go.Proofs.YtncjbjlmgnjhiaaGreat.VM
namespace Go.Proofs.YtncjbjlmgnjhiaaGreat.VM
open Go
set_option linter.unusedVariables false
set_option linter.unusedSimpArgs false
variable {P : Program} {T : Tab} {μ : Mu}
theorem EH {H : Heap} {b off n : Nat} {cs : List V} (h : H.loadN b off n = some cs) : cs.length = n := by
 unfold Heap.loadN at h
 split at h
 ·split at h
  ·simp only [Option.some.injEq] at h; subst h; simp; omega
  ·cases h
 ·cases h
theorem DH {H : Heap} {w : World} (s : Sim μ H w) {b off len cap n size : Nat} {t : Bool} {sz : Nat} {cv : Value} (hv : VR μ (.slc b off len cap t sz) cv) (hn : n = 0 ∨ 0 < cap) {cs : List V} (h : H.loadN b off (n * size) = some cs ∨ (n = 0 ∧ cs = [])) :
  ∃ ws : Array Value, (∀ w', w'.heap = w.heap → (Builtin.firstCells size n cv).run P w' = .ok ws w') ∧ VRs μ cs ws.toList ∧ (∀ c ∈ cs, c.one = true) := by
 simp only [VR] at hv
 obtain ⟨a, c, ev, k1, k2, k3, k45⟩ := hv
 subst ev
 by_cases h0 : n = 0
 ·subst h0
  have hcs : cs = [] := by
   rcases h with h | ⟨_, h⟩
   ·have := EH h; simp at this; exact this
   ·exact h
  subst hcs
  refine ⟨#[], fun w' _ => ?_, by simp [VRs], by simp⟩
  simp only [Builtin.firstCells, Nat.zero_mul]
  rfl
 ·have hc : 0 < cap := hn.resolve_left h0
  rcases k45 with ⟨_, q2⟩ | ⟨y, o, hy, rfl, k4, k5⟩
  ·omega
  obtain rfl := k5 hc
  have h' := h.resolve_right (fun h => h0 h.1)
  obtain ⟨ws, h1, h2, h3, _⟩ := KA P s hy h'
  exact ⟨ws, fun w' hw => h1 w' hw, h2, h3⟩
theorem extract_all (s : ByteArray) : (s.extract 0 s.size).data = s.data := by
 simp [ByteArray.data_extract]
theorem RI (fit : Fits P T) {H : Heap} {w : World} (s : Sim μ H w) {elem : Nat} {i : TI} (hE : T elem = some i) {t2 : Nat} {x : V} {cx : Value} (hx : VR μ x cx) {n : Nat} {news : List V} (h : newsOf T i t2 x H = some (n, news)) (hl : news.length = n * i.size) :
  ∃ zs ws, Xv P t2 elem i.bytes i.size n cx zs ws w ∧ VRs μ news ws.toList ∧ ∀ c ∈ news, c.one = true := by
 obtain ⟨q, z, hq, q1, q2, q3, q4, q5, q6⟩ := (fit _ _ hE).info
 unfold newsOf at h
 split at h
 ·rename_i m hT
  split at h
  ·rename_i hm
   obtain ⟨m0, m1, m2⟩ := hm
   simp only [Option.some.injEq, Prod.mk.injEq] at h
   obtain ⟨rfl, rfl⟩ := h
   have hz := HX (q4 μ) m.toNat
   have hzl : z.cells.size = i.size := by have := (q4 μ).length; simp only [Array.length_toList] at this; omega
   refine ⟨true, _, ⟨.inl ⟨rfl, _, (fit _ _ hT).kind⟩, .inl ⟨rfl, _, m, hx.int, m0, m2, ?_, rfl⟩, fun w' _ => ?_⟩, hz, Ij q5 _⟩
   ·have : (2 : Int) ^ 47 ≤ 2 ^ 48 := by decide
    omega
   ·unfold WV
    simp only [Bool.not_true, Bool.false_eq_true, if_false]
    split
    ·rename_i h0
     rw [Sem.run_pure]
     congr 1
     symm
     apply Array.eq_empty_of_size_eq_zero
     simp only [Array.size_map, Array.size_range]
     rw [hzl]; exact h0
    ·simp [Fq hq q3, Builtin.zeroCells]
  ·cases h
 ·rename_i hT
  simp only [Option.some.injEq, Prod.mk.injEq] at h
  obtain ⟨rfl, rfl⟩ := h
  rw [hx.AN]
  exact ⟨false, #[], ⟨.inr ⟨rfl, .inl ⟨_, (fit _ _ hT).kind⟩⟩, .inr ⟨rfl, fun w => rfl⟩, fun w' _ => rfl⟩, by simp [VRs], by simp⟩
 ·rename_i b off m cap t sz hT
  have hlen : ∀ w : World, (Builtin.lenOf cx).run P w = .ok m w := fun w => by
   have hx' := hx
   simp only [VR] at hx'
   obtain ⟨_, _, rfl, _⟩ := hx'
   rfl
  have hcap : m ≤ cap := by
   have hx' := hx
   simp only [VR] at hx'
   obtain ⟨_, _, rfl, k, _⟩ := hx'
   exact k
  have done : ∀ {k : Nat} {l : List V}, k = m → (H.loadN b off (m * i.size) = some l ∨ (m = 0 ∧ l = [])) → ∃ zs ws, Xv P t2 elem i.bytes i.size k cx zs ws w ∧ VRs μ l ws.toList ∧ ∀ c ∈ l, c.one = true := by
   intro k l hk hl'
   subst hk
   obtain ⟨ws, h1, h2, h3⟩ := DH s hx (by omega : k = 0 ∨ 0 < cap) hl' (P := P)
   exact ⟨false, ws, ⟨.inr ⟨rfl, .inl ⟨_, (fit _ _ hT).kind⟩⟩, .inr ⟨rfl, hlen⟩, fun w' hw => by unfold WV; simpa using h1 w' hw⟩, h2, h3⟩
  split at h
  ·rename_i h0
   simp only [Option.some.injEq, Prod.mk.injEq] at h
   obtain ⟨rfl, rfl⟩ := h
   exact done h0.symm (.inr ⟨h0, rfl⟩)
  ·simp only [Option.map_eq_some_iff, Prod.mk.injEq] at h
   obtain ⟨cs, hcs, rfl, rfl⟩ := h
   exact done rfl (.inl hcs)
 ·rename_i b hT
  simp only [Option.some.injEq, Prod.mk.injEq] at h
  obtain ⟨rfl, rfl⟩ := h
  rw [hx.str]
  refine ⟨false, b.data.map fun b => .int .u8 b.toNat, ⟨.inr ⟨rfl, .inr (fit _ _ hT).kind⟩, .inr ⟨rfl, fun w => rfl⟩, fun w' _ => ?_⟩, by simpa using Jv b, Kp b⟩
  unfold WV
  simp only [Bool.not_false, if_true, Builtin.firstCells, Sem.run_pure]
  rw [extract_all]
 ·cases h
theorem OP {H : Heap} {w : World} (s : Sim μ H w) (e : TypeId) (size k : Nat) (cs : List V) (cvs rest : Array Value) (h : VRs μ cs cvs.toList) (h1 : ∀ c ∈ cs, c.one = true) {len cap : Nat} (hk : len ≤ k) (hk2 : k ≤ cap) {t : Bool} (ht : t = true → cap = k) (hs : (cvs ++ rest).size = cap * size) :
  ∃ μ', VR μ' (.slc H.length 0 len k t size) (.slice (some ⟨w.heap.size, 0, none⟩) len cap) ∧ Sim μ' (H ++ [.row cs true]) (w.alloc (.cells (cvs ++ rest) e)) ∧ Tr μ H w μ' (H ++ [.row cs true]) (w.alloc (.cells (cvs ++ rest) e)) := by
 obtain ⟨μ', h2, h3, h4⟩ := Pw s e (0, 0) true cs cvs rest h h1 (fun _ => rfl)
 refine ⟨μ', ?_, h3, h4⟩
 simp only [VR]
 exact ⟨_, cap, rfl, hk, hk2, ht, .inr ⟨_, 0, h2, rfl, by simp only [hs]; omega, fun _ => rfl⟩⟩
theorem QZ (fit : Fits P T) {H H' : Heap} {w : World} (s : Sim μ H w) {t1 t2 elem n ty : Nat} {i : TI} (hu : P.underlying t1 = some (.slice elem)) (hE : T elem = some i) {sv v : V} {cs cx : Value} {news : List V} (hs : VR μ sv cs)
  (hnews : news.length = n * i.size → ∃ zs ws, Xv P t2 elem i.bytes i.size n cx zs ws w ∧ VRs μ news ws.toList ∧ ∀ c ∈ news, c.one = true) (h : appendV i sv n news H = some (v, H')) :
  ∃ cv w' μ', (Builtin.append_ #[t1, t2] ty #[cs, cx]).run P w = .ok cv w' ∧ VR μ' v cv ∧ Sim μ' H' w' ∧ Tr μ H w μ' H' w' := by
 obtain ⟨q, z, hq, q1, q2, q3, q4, q5, q6⟩ := (fit _ _ hE).info
 have hzs : z.cells.size = i.size := by have := (q4 μ).length; simp only [Array.length_toList] at this; omega
 unfold appendV at h
 split at h
 ·cases h
 rename_i hl
 simp only [ne_eq, Decidable.not_not] at hl
 obtain ⟨zs, ws, hN, hws, hone⟩ := hnews hl
 have hwl : ws.size = n * i.size := by have := hws.length; simp only [Array.length_toList] at this; omega
 have hb : ∀ {l k : Nat}, (l + k) * q.bytes = (l + k) * i.bytes := by rw [q2]; intros; rfl
 split at h
 ·-- nil
  rw [hs.AN]
  split at h
  ·rename_i h0
   simp only [Option.some.injEq, Prod.mk.injEq] at h
   obtain ⟨rfl, rfl⟩ := h
   subst h0
   exact ⟨_, w, μ, append_fits hu hq q1 q2 hN (Nat.le_refl _), VR.RG, s, Tr.refl _ _ _⟩
  ·rename_i h0
   split at h
   ·rename_i hbd
    simp only [Option.some.injEq, Prod.mk.injEq] at h
    obtain ⟨rfl, rfl⟩ := h
    obtain ⟨rest, hrun, hrest⟩ := Kn (ty := ty) hu hq q3 q1 q2 hzs hN (base := none) (sLen := 0) (sCap := 0) (by omega) rfl (by simpa using hbd.1) (by simpa using hbd.2)
    have hge := grownCap_ge w (0 + n) 0 elem
    obtain ⟨μ', k1, k2, k3⟩ := OP s.drew elem i.size n news ws rest hws hone (len := n) (cap := grownCap w (0 + n) 0 elem) (t := false) (Nat.le_refl _) (by omega) nofun (by
     rw [Array.size_append, hwl, hrest, ← Nat.add_mul]; congr 1; omega)
    refine ⟨_, _, μ', hrun, ?_, ?_, ?_⟩
    ·simpa using k1
    ·simpa using k2
    ·simpa using (Tr.drew H w).trans k3 (fun b x h => (s.lt b x h).1)
   ·cases h
 ·rename_i b off len cap t sz
  have hs0 := hs
  simp only [VR] at hs
  obtain ⟨a, c, ev, k1, k2, k3, k45⟩ := hs
  split at h
  ·cases h
  rename_i hsz
  simp only [ne_eq, Decidable.not_not] at hsz
  split at h
  ·rename_i hfit
   split at h
   ·rename_i h0
    subst h0
    simp only [Option.some.injEq, Prod.mk.injEq] at h
    obtain ⟨rfl, rfl⟩ := h
    have hw0 : ws.toList = [] := by
     have : ws.size = 0 := by simpa using hwl
     simpa using this
    refine ⟨_, w, μ, ?_, hs0, s, Tr.refl _ _ _⟩
    rw [ev, append_fits hu hq q1 q2 hN (by omega)]
    simp only [hw0, storeCells, Sem.run_pure, Result.andThen_ok, Nat.add_zero]
   ·rename_i h0
    simp only [Option.map_eq_some_iff, Prod.mk.injEq] at h
    obtain ⟨h', hst, rfl, rfl⟩ := h
    rcases k45 with ⟨_, q2⟩ | ⟨y, o, hy, rfl, k4, k5⟩
    ·omega
    obtain rfl := k5 (by omega)
    obtain ⟨w', r1, r2, r3⟩ := Io P s hy hst hws hone
    refine ⟨.slice (some ⟨y.B, y.o + o, none⟩) (len + n) c, w', μ, ?_, ?_, r2, r3⟩
    ·rw [ev, append_fits hu hq q1 q2 hN (by omega)]
     simp only [GZ, Nat.add_assoc] at r1 ⊢
     rw [r1]
     rfl
    ·simp only [VR]
     exact ⟨_, c, rfl, by omega, k2, k3, .inr ⟨y, o, hy, rfl, k4, fun _ => rfl⟩⟩
  ·rename_i hfit
   split at h
   ·rename_i hbd
    split at h
    ·rename_i cells wr old hrow hold
     have hlen0 : len = 0 ∨ 0 < cap := by omega
     obtain ⟨wold, hf1, hf2, hf3⟩ := DH (P := P) (n := len) (size := i.size) s hs0 hlen0 (.inl hold)
     have hol : wold.size = len * i.size := by have := hf2.length; have := EH hold; simp only [Array.length_toList] at *; omega
     have both := hf2.append hws
     have bone : ∀ c ∈ old ++ news, c.one = true := fun c hc => by
      rcases List.mem_append.1 hc with h | h
      ·exact hf3 c h
      ·exact hone c h
     have grow : c < len + n → ∀ (K : Heap), Sim μ K w → K.length = H.length → ∃ cv w' μ', (Builtin.append_ #[t1, t2] ty #[cs, cx]).run P w = .ok cv w' ∧ VR μ' (.slc H.length 0 (len + n) (len + n) false sz) cv ∧ Sim μ' (K ++ [.row (old ++ news) true]) w' ∧ Tr μ K w μ' (K ++ [.row (old ++ news) true]) w' := by
      intro hc K sK hK
      obtain ⟨rest, hrun, hrest⟩ := Kn (ty := ty) hu hq q3 q1 q2 hzs hN (base := some a) (sLen := len) (sCap := c) (old := wold) hc (by rw [← ev]; exact hf1 _ rfl) hbd.1 hbd.2
      have hge := grownCap_ge w (len + n) c elem
      obtain ⟨μ', g1, g2, g3⟩ := OP sK.drew elem i.size (len + n) (old ++ news) (wold ++ ws) rest (by simpa using both) bone (len := len + n) (cap := grownCap w (len + n) c elem) (t := false) (Nat.le_refl _) hge nofun (by
       rw [Array.size_append, Array.size_append, hol, hwl, hrest, ← Nat.add_mul, ← Nat.add_mul]; congr 1; omega)
      rw [hK, ← hsz] at g1
      exact ⟨_, _, μ', by rw [ev]; exact hrun, by simpa using g1, g2, (Tr.drew K w).trans g3 (fun b x h => (sK.lt b x h).1)⟩
     split at h
     ·rename_i ht
      simp only [Option.some.injEq, Prod.mk.injEq] at h
      obtain ⟨rfl, rfl⟩ := h
      exact grow (by have := k3 ht; omega) H s rfl
     ·split at h
      ·rename_i hnt hwr
       subst hwr
       rcases k45 with ⟨q1, _⟩ | ⟨y, o, hy, rfl, k4, k5⟩
       ·exact absurd q1 hnt
       simp only [Option.some.injEq, Prod.mk.injEq] at h
       obtain ⟨rfl, rfl⟩ := h
       obtain ⟨sk, tk⟩ := Oo s hrow
       by_cases hc : c < len + n
       ·obtain ⟨cv, w', μ', g1, g2, g3, g4⟩ := grow hc (H.set b .dead) sk (by simp)
        exact ⟨cv, w', μ', g1, g2, g3, tk.trans g4 (fun b x h => (s.lt b x h).1)⟩
       ·-- the model has room: it writes behind the old ones
        obtain ⟨e1, e2⟩ := s.ext b y cells true hy hrow
        have hcn : (len + n) * i.size ≤ y.n - o := by
         have : (len + n) * i.size ≤ c * i.size := Nat.mul_le_mul_right _ (by omega)
         rw [hsz] at k4
         omega
        have hon : o ≤ y.n := by omega
        have hmul : (len + n) * i.size = len * i.size + n * i.size := Nat.add_mul ..
        have hws1 : ∀ v ∈ ws.toList, v.oneCell' = true := fun v hv => by
         obtain ⟨j, hj, rfl⟩ := List.mem_iff_getElem.1 hv
         have hjl : j < news.length := by rw [hl, ← hwl]; simpa using hj
         obtain ⟨u, hu', hr'⟩ := hws.get (i := j) (v := news[j]) (by simp [hjl])
         have : ws.toList[j] = u := by
          have := (List.getElem?_eq_some_iff.1 hu').2
          exact this
         rw [this]
         exact eU hr' (hone _ (List.getElem_mem hjl))
        obtain ⟨w', r1, r2, r3, r4, r5, r6, r7, r8, r9, r10⟩ := El P y.B ws.toList (y.o + o + len * i.size) 0 w hws1 (fun j _ hj => by
         have hj' : j < n * i.size := by rw [← hwl]; simpa using hj
         rw [show y.o + o + len * i.size + j = y.o + (o + len * i.size + j) by omega]
         exact ⟨e2 _ (by omega), s.free b y cells hy hrow _⟩)
        refine ⟨.slice (some ⟨y.B, y.o + o, none⟩) (len + n) c, w', μ.put H.length ⟨y.B, y.o + o, y.n - o⟩, ?_, ?_, ?_, ?_⟩
        ·rw [ev, append_fits hu hq q1 q2 hN (by omega)]
         simp only [GZ]
         rw [r1]
         rfl
        ·simp only [VR]
         refine ⟨_, c, rfl, Nat.le_refl _, by omega, nofun, .inr ⟨_, 0, Mu.De _ _ _, rfl, ?_, fun _ => rfl⟩⟩
         simp only
         omega
        ·have hK : (H.set b Blk.dead).length = H.length := by simp
         rw [← hK]
         refine QL sk (s.lt b y hy).2 ?_ r6 r7 hon ?_ (fun j hj => r5 _ (e2 j hj)) (fun j => by rw [r4]; exact s.free b y cells hy hrow j) ?_
         ·intro b' x k hx hk hd
          rcases DV hk with ⟨_, rfl⟩ | ⟨hne, hk'⟩
          ·exact absurd rfl hd
          ·exact s.sole b y _ hy hrow rfl b' x k hne hx hk' hd
         ·rw [List.length_append, EH hold, hl, ← hmul]; exact hcn
         ·intro j v hj
          by_cases hjl : j < len * i.size
          ·rw [List.getElem?_append_left (by rw [EH hold]; exact hjl)] at hj
           have hlenpos : 0 < cap := by
            apply Nat.pos_of_ne_zero
            intro h0
            have : len = 0 := by omega
            subst this
            simp at hjl
           obtain rfl := k5 hlenpos
           unfold Heap.loadN at hold
           rw [hrow] at hold
           simp only at hold
           split at hold
           ·rename_i hle
            simp only [Option.some.injEq] at hold
            rw [← hold, List.getElem?_take, if_pos hjl, List.getElem?_drop] at hj
            obtain ⟨p1, cv, p2, p3⟩ := s.row b y cells true hy hrow _ v hj
            refine ⟨p1, cv, ?_, p3⟩
            rw [r3 _ (.inl (by omega)), show y.o + o + j = y.o + (o + j) by omega]
            exact p2
           ·cases hold
          ·rw [List.getElem?_append_right (by rw [EH hold]; omega), EH hold] at hj
           obtain ⟨u, hu', hr'⟩ := hws.get hj
           refine ⟨hone v (List.mem_of_getElem? hj), u, ?_, hr'⟩
           have := r2 _ _ hu'
           rw [show y.o + o + len * i.size + (0 + (j - len * i.size)) = y.o + o + j by omega] at this
           exact this
        ·refine ⟨Mu.KV _ s.Fl, fun b' x hx hno => ?_, fun b' k hk => ?_, by omega, fun B hB hno => ?_, r8, r9, r10⟩
         ·by_cases hb' : b' = H.length
          ·subst hb'
           rw [Mu.De] at hx
           obtain rfl := Option.some.inj hx
           refine ⟨Nat.le_refl _, .inr ⟨b, y, _, hy, rfl, hrow, rfl, ?_⟩⟩
           have hlt : b < H.length := (List.getElem?_eq_some_iff.1 hrow).1
           rw [List.getElem?_append_left (by simp [hlt])]
           exact NV _ hrow
          ·rw [Mu.Kc _ hb'] at hx
           rw [hx] at hno; cases hno
         ·obtain ⟨k', hk', hle⟩ := JX hrow (k := .dead) (by simp [Blk.Le]) b' k hk
          have hlt : b' < H.length := (List.getElem?_eq_some_iff.1 hk).1
          exact ⟨k', by rw [List.getElem?_append_left (by simp [hlt])]; exact hk', hle⟩
         ·exact r6 B (fun e => hno b y _ hy hrow rfl e.symm)
      ·cases h
    ·cases h
   ·cases h
 ·cases h
theorem Nk (fit : Fits P T) {H H' : Heap} {w : World} (s : Sim μ H w) {t1 t2 elem ty : Nat} {i : TI} (hu : P.underlying t1 = some (.slice elem)) (hE : T elem = some i) {dst src v : V} {cd cs : Value} (hd : VR μ dst cd) (hs : VR μ src cs) (h : copyV i dst src H = some (v, H')) :
  ∃ cv w' μ', (Builtin.copy_ #[t1, t2] ty #[cd, cs]).run P w = .ok cv w' ∧ VR μ' v cv ∧ Sim μ' H' w' ∧ Tr μ H w μ' H' w' := by
 obtain ⟨q, z, hq, q1, q2, q3, q4, q5, q6⟩ := (fit _ _ hE).info
 unfold copyV at h
 split at h
 ·rename_i b off len cap t sz b2 off2 len2 cap2 t2' sz2
  have hd0 := hd
  have hs0 := hs
  simp only [VR] at hd hs
  obtain ⟨a, c, ev, k1, k2, k3, k45⟩ := hd
  obtain ⟨a2, c2, ev2, m1, m2, m3, m45⟩ := hs
  have hlenOf : (Builtin.lenOf cs).run P w = .ok len2 w := by rw [ev2]; rfl
  dsimp only at h
  split at h
  ·rename_i h0
   simp only [Option.some.injEq, Prod.mk.injEq] at h
   obtain ⟨rfl, rfl⟩ := h
   refine ⟨.int .i64 0, w, μ, ?_, VR.Cu _ _, s, Tr.refl _ _ _⟩
   unfold Builtin.copy_
   rw [ev]
   simp only [List.getElem?_toArray, List.getElem?_cons_zero, List.getElem?_cons_succ, Av hu, Sem.run_bind, Result.andThen_ok, hlenOf, Sem.run_pure, CE hq, h0]
   have hfc : (Builtin.firstCells q.size 0 cs).run P w = .ok #[] w := by rw [ev2]; simp only [Builtin.firstCells, Nat.zero_mul]; rfl
   rw [hfc]
   simp [storeCells, goInt]
  ·rename_i h0
   split at h
   ·rename_i cells hl
    split at h
    ·rename_i h' hst
     simp only [Option.some.injEq, Prod.mk.injEq] at h
     obtain ⟨rfl, rfl⟩ := h
     have hmin : 0 < len ∧ 0 < len2 := by
      constructor <;> (apply Nat.pos_of_ne_zero; intro e; subst e; simp at h0)
     obtain ⟨ws, f1, f2, f3⟩ := DH (P := P) (n := Nat.min len2 len) (size := i.size) s hs0 (by omega) (.inl hl)
     rcases k45 with ⟨_, q2⟩ | ⟨y, o, hy, rfl, k4, k5⟩
     ·omega
     obtain rfl := k5 (by omega)
     obtain ⟨w', r1, r2, r3⟩ := Io P s hy hst f2 f3
     refine ⟨.int .i64 (Nat.min len2 len : Nat), w', μ, ?_, VR.Cu _ _, r2, r3⟩
     unfold Builtin.copy_
     rw [ev]
     simp only [List.getElem?_toArray, List.getElem?_cons_zero, List.getElem?_cons_succ, Av hu, Sem.run_bind, Result.andThen_ok, hlenOf, Sem.run_pure, CE hq, q1]
     rw [f1 w rfl]
     simp only [Result.andThen_ok, r1, Sem.run_bind, Sem.run_pure]
     rfl
    ·cases h
   ·cases h
 ·cases h
end Go.Proofs.YtncjbjlmgnjhiaaGreat.VM
namespace Go.Proofs.YtncjbjlmgnjhiaaGreat.VM
open Go
set_option linter.unusedVariables false
set_option linter.unusedSimpArgs false
variable {P : Program} {T : Tab} {μ : Mu}
theorem Uy {H : Heap} {w : World} (s : Sim μ H w) : Sim (μ.put H.length ⟨w.heap.size, 0, 0⟩) (H ++ [.mp []]) (w.alloc (.map #[] 0)) ∧ Tr μ H w (μ.put H.length ⟨w.heap.size, 0, 0⟩) (H ++ [.mp []]) (w.alloc (.map #[] 0)) := by
 have hle : Mu.Le μ (μ.put H.length ⟨w.heap.size, 0, 0⟩) := Mu.KV _ s.Fl
 have old : ∀ b x, μ b = some x → ∀ i, (w.alloc (.map #[] 0)).cell? ⟨x.B, x.o + i, none⟩ = w.cell? ⟨x.B, x.o + i, none⟩ := fun b x hx i =>
  World.cell?_alloc_lt w _ _ (s.lt b x hx).2
 have oldf : ∀ b x, μ b = some x → ∀ i, (w.alloc (.map #[] 0)).frozen? ⟨x.B, x.o + i, none⟩ = w.frozen? ⟨x.B, x.o + i, none⟩ := fun b x hx i =>
  World.frozen?_alloc_old w _ _ (Nat.ne_of_lt (s.lt b x hx).2)
 have split : ∀ b x, μ.put H.length ⟨w.heap.size, 0, 0⟩ b = some x → (b = H.length ∧ x = ⟨w.heap.size, 0, 0⟩) ∨ (b ≠ H.length ∧ μ b = some x) := fun b x hx => by
  by_cases hb : b = H.length
  ·subst hb; rw [Mu.De] at hx; exact .inl ⟨rfl, (Option.some.inj hx).symm⟩
  ·rw [Mu.Kc _ hb] at hx; exact .inr ⟨hb, hx⟩
 have oldk : ∀ b k, b ≠ H.length → (H ++ [Blk.mp []])[b]? = some k → H[b]? = some k := fun b k hb hk => by
  rcases ER hk with ⟨h1, _⟩ | ⟨_, h2⟩
  ·exact absurd h1 hb
  ·exact h2
 have newk : ∀ k, (H ++ [Blk.mp []])[H.length]? = some k → k = .mp [] := fun k hk => by
  rcases ER hk with ⟨_, h2⟩ | ⟨h1, _⟩
  ·exact h2
  ·exact absurd h1 (Nat.lt_irrefl _)
 refine ⟨⟨?_, ?_, ?_, ?_, ?_, ?_⟩, ?_⟩
 ·intro b x hx
  rcases split b x hx with ⟨rfl, rfl⟩ | ⟨_, h⟩
  ·simp
  ·have := s.lt b x h; simp; omega
 ·intro b x cs' wr' hx hb i v hi
  rcases split b x hx with ⟨rfl, rfl⟩ | ⟨hne, h⟩
  ·have := newk _ hb; cases this
  ·obtain ⟨h1, cv, h2, h3⟩ := s.row b x cs' wr' h (oldk _ _ hne hb) i v hi
   exact ⟨h1, cv, by rw [old b x h]; exact h2, h3.mono hle⟩
 ·intro b x cs' wr' hx hb
  rcases split b x hx with ⟨rfl, rfl⟩ | ⟨hne, h⟩
  ·have := newk _ hb; cases this
  ·obtain ⟨h2, h3⟩ := s.ext b x cs' wr' h (oldk _ _ hne hb)
   exact ⟨h2, fun i hi => by rw [old b x h]; exact h3 i hi⟩
 ·intro b x cs' hx hb i
  rcases split b x hx with ⟨rfl, rfl⟩ | ⟨hne, h⟩
  ·have := newk _ hb; cases this
  ·rw [oldf b x h]; exact s.free b x cs' h (oldk _ _ hne hb) i
 ·intro b x k hx hb ho b' x' k' hne' hx' hb' hd
  rcases split b x hx with ⟨rfl, rfl⟩ | ⟨hne, h⟩ <;> rcases split b' x' hx' with ⟨rfl, rfl⟩ | ⟨hne2, h'⟩
  ·exact absurd rfl hne'
  ·exact Nat.ne_of_lt (s.lt b' x' h').2
  ·exact fun e => Nat.ne_of_lt (s.lt b x h).2 e.symm
  ·exact s.sole b x k h (oldk _ _ hne hb) ho b' x' k' hne' h' (oldk _ _ hne2 hb') hd
 ·intro b x es hx hb
  rcases split b x hx with ⟨rfl, rfl⟩ | ⟨hne, h⟩
  ·have := newk _ hb
   injection this with e1
   subst e1
   exact ⟨#[], 0, by simp [World.alloc, -World.alloc_eq], rfl⟩
  ·obtain ⟨m, cl, h1, h2⟩ := s.mp b x es h (oldk _ _ hne hb)
   refine ⟨m, cl, ?_, h2⟩
   simp only [World.alloc]
   rw [Array.getElem?_push, if_neg (Nat.ne_of_lt (s.lt b x h).2)]
   exact h1
 ·refine ⟨hle, fun b x hx hno => ?_, QM H _, by simp, fun B hB _ => ?_, rfl, rfl, rfl⟩
  ·rcases split b x hx with ⟨rfl, rfl⟩ | ⟨_, h⟩
   ·exact ⟨Nat.le_refl _, .inl (Nat.le_refl _)⟩
   ·rw [h] at hno; cases hno
  ·simp only [World.alloc]
   rw [Array.getElem?_push, if_neg (Nat.ne_of_lt hB)]
theorem Oq {H : Heap} {w : World} (s : Sim μ H w) {b : Nat} {x : Loc} {es es' : List (Int × Int)} (hx : μ b = some x) (hb : H[b]? = some (.mp es)) (m : Array MapEntry) (cl : Nat)
  (hm : m.toList.map (fun e => (e.key, e.val)) = es'.map fun p => (Value.int .i64 p.1, Value.int .i64 p.2)) :
  Sim μ (H.set b (.mp es')) { w with heap := w.heap.setIfInBounds x.B (.map m cl) } ∧ Tr μ H w μ (H.set b (.mp es')) { w with heap := w.heap.setIfInBounds x.B (.map m cl) } := by
 have hh : ∀ B, B ≠ x.B → (w.heap.setIfInBounds x.B (.map m cl))[B]? = w.heap[B]? := fun B h => Array.getElem?_setIfInBounds_ne (fun e => h e.symm)
 have cell : ∀ B i, B ≠ x.B → ({ w with heap := w.heap.setIfInBounds x.B (.map m cl) } : World).cell? ⟨B, i, none⟩ = w.cell? ⟨B, i, none⟩ := fun B i h => by simp only [World.cell?, hh B h]
 have frz : ∀ B i, B ≠ x.B → ({ w with heap := w.heap.setIfInBounds x.B (.map m cl) } : World).frozen? ⟨B, i, none⟩ = w.frozen? ⟨B, i, none⟩ := fun B i h => by simp only [World.frozen?, hh B h]
 have far : ∀ b' x' k, b' ≠ b → μ b' = some x' → H[b']? = some k → k ≠ .dead → x'.B ≠ x.B := fun b' x' k hne hx' hk hd => s.sole b x _ hx hb rfl b' x' k hne hx' hk hd
 refine ⟨⟨?_, ?_, ?_, ?_, ?_, ?_⟩, ⟨Mu.Le.refl _, fun b x h h' => by simp [h] at h', JX hb (by simp [Blk.Le]), by simp, fun B hB hno => ?_, rfl, rfl, rfl⟩⟩
 ·intro b' x' hx'; have := s.lt b' x' hx'; simpa using this
 ·intro b' x' cs' wr' hx' hb' j v' hj
  rcases DV hb' with ⟨_, hk⟩ | ⟨hne, hk⟩
  ·cases hk
  ·obtain ⟨q1, q2, q3, q4⟩ := s.row b' x' cs' wr' hx' hk j v' hj
   exact ⟨q1, q2, by rw [cell _ _ (far b' x' _ hne hx' hk (by simp))]; exact q3, q4⟩
 ·intro b' x' cs' wr' hx' hb'
  rcases DV hb' with ⟨_, hk⟩ | ⟨hne, hk⟩
  ·cases hk
  ·obtain ⟨q2, q3⟩ := s.ext b' x' cs' wr' hx' hk
   exact ⟨q2, fun i hi => by rw [cell _ _ (far b' x' _ hne hx' hk (by simp))]; exact q3 i hi⟩
 ·intro b' x' cs' hx' hb' j
  rcases DV hb' with ⟨_, hk⟩ | ⟨hne, hk⟩
  ·cases hk
  ·rw [frz _ _ (far b' x' _ hne hx' hk (by simp))]; exact s.free b' x' cs' hx' hk j
 ·intro b1 x1 k1 hx1 hb1 ho b2 x2 k2 hne hx2 hb2 hd
  rcases DV hb1 with ⟨rfl, hk⟩ | ⟨hne1, hk⟩ <;> rcases DV hb2 with ⟨rfl, hk'⟩ | ⟨hne2, hk'⟩
  ·exact absurd rfl hne
  ·exact s.sole b1 x1 _ hx1 hb rfl b2 x2 k2 hne hx2 hk' hd
  ·exact s.sole b1 x1 k1 hx1 hk ho b2 x2 _ hne hx2 hb (by simp)
  ·exact s.sole b1 x1 k1 hx1 hk ho b2 x2 k2 hne hx2 hk' hd
 ·intro b' x' es2 hx' hb'
  rcases DV hb' with ⟨rfl, hk⟩ | ⟨hne, hk⟩
  ·injection hk with e1
   subst e1
   obtain rfl : x = x' := Option.some.inj (hx.symm.trans hx')
   exact ⟨m, cl, by simp [(s.lt _ x hx).2], hm⟩
  ·obtain ⟨m', cl', q1, q2⟩ := s.mp b' x' es2 hx' hk
   exact ⟨m', cl', by rw [hh _ (far b' x' _ hne hx' hk (by simp))]; exact q1, q2⟩
 ·exact hh B (fun e => hno b x _ hx hb rfl e.symm)
theorem Kr {t : Nat} {k : IntKind} (h : P.underlying t = some (.int k)) (e : Bool) (d : Nat) (v : Value) (w : World) : (Instr.checkKey e (d + 1) t v).run P w = .ok () w := by
 simp only [Instr.checkKey, Sem.run_bind, Av h, Result.andThen_ok]
 cases v <;> rfl
theorem Hd (k : Int) : ∀ (es : List (Int × Int)) (m : List MapEntry) (i : Nat), m.map (fun e => (e.key, e.val)) = es.map (fun p => (Value.int .i64 p.1, Value.int .i64 p.2)) →
  (mapGet es k = none ∧ Instr.findNow (.int .i64) (.int .i64 k) m i = some none) ∨
  (∃ b j e, mapGet es k = some b ∧ Instr.findNow (.int .i64) (.int .i64 k) m i = some (some (i + j, .int .i64 b)) ∧ m[j]? = some e ∧ e.key = .int .i64 k ∧ ∀ v, DK es k v = es.set j (k, v))
 | [], m, i, h => by
  have : m = [] := by simpa using h
  subst this
  exact .inl ⟨rfl, rfl⟩
 | (a, b) :: es, m, i, h => by
  cases m with
  | nil => simp at h
  | cons e m =>
   simp only [List.map_cons, List.cons.injEq, Prod.mk.injEq] at h
   obtain ⟨⟨hk, hv⟩, hr⟩ := h
   by_cases hak : a = k
   ·subst hak
    refine .inr ⟨b, 0, e, by simp [mapGet], ?_, rfl, hk, fun v => by simp [DK]⟩
    simp [Instr.findNow, hk, hv, Instr.sameNow]
   ·have hne : (k == a) = false := by simp; exact fun e => hak e.symm
    rcases Hd k es m (i + 1) hr with ⟨h1, h2⟩ | ⟨b', j, e', h1, h2, h3, h4, h5⟩
    ·exact .inl ⟨by simp [mapGet, hak, h1], by simp [Instr.findNow, hk, Instr.sameNow, hne, h2]⟩
    ·refine .inr ⟨b', j + 1, e', by simp [mapGet, hak, h1], ?_, by simpa using h3, h4, fun v => by simp [DK, hak, h5]⟩
     simp only [Instr.findNow, hk, Instr.sameNow, if_true, hne, h2]
     rw [show i + 1 + j = i + (j + 1) by omega]
theorem Ms {k v : Int} : ∀ {es : List (Int × Int)}, mapGet es k = none → DK es k v = es ++ [(k, v)]
 | [], _ => rfl
 | (a, b) :: es, h => by
  simp only [mapGet] at h
  split at h
  ·cases h
  ·rename_i hne
   simp only [DK, hne, if_false, List.cons_append]
   rw [Ms h]
theorem HC {t : Nat} (h : P.underlying t = some (.int .i64)) {k : Value} {es : List MapEntry} {r : Option (Nat × Value)} (hf : Instr.findNow (.int .i64) k es 0 = some r) (w : World) : (Instr.findKey t k es).run P w = .ok r w := by
 simp only [Instr.findKey, Sem.run_bind, Av h, Result.andThen_ok, hf, Sem.run_pure]
theorem Og {w : World} {r : Nat} {m : Array MapEntry} {cl : Nat} (h : w.heap[r]? = some (.map m cl)) : (getObj r).run P w = .ok (.map m cl) w := by
 simp only [getObj, Sem.run, h]
theorem Oh {w : World} {r : Nat} {m : Array MapEntry} {cl : Nat} (h : w.heap[r]? = some (.map m cl)) (o : Obj) : (setObj r o).run P w = .ok () { w with heap := w.heap.setIfInBounds r o } := by
 simp only [setObj, Sem.run, h]
theorem RA {H : Heap} {w : World} (s : Sim μ H w) {t : Nat} (hk : TK.fits P t .map) {b : Nat} {cx : Value} {k : Int} {es : List (Int × Int)} (hx : VR μ (.map b) cx) (hb : H[b]? = some (.mp es)) :
  (Instr.lookup t cx (.int .i64 k) false).run P w = .ok (.int .i64 ((mapGet es k).getD 0)) w := by
 obtain ⟨kt, et, q, h1, h2, h3, h4⟩ := hk
 simp only [VR] at hx
 obtain ⟨x, hx, rfl⟩ := hx
 obtain ⟨m, cl, m1, m2⟩ := s.mp b x es hx hb
 unfold Instr.lookup
 simp only [Sem.run_bind, Av h1, Result.andThen_ok, Og m1, Sem.run_pure, Kr h2 _ 9999]
 rcases Hd k es m.toList 0 m2 with ⟨g1, g2⟩ | ⟨b', j, e', g1, g2, _⟩
 ·rw [HC h2 g2, g1]
  simp [Fq h3 h4]
 ·rw [HC h2 g2, g1]
  simp
theorem Rk {H : Heap} {w : World} (s : Sim μ H w) {t : Nat} (hk : TK.fits P t .map) {b : Nat} {cx : Value} {k v : Int} {es : List (Int × Int)} (hx : VR μ (.map b) cx) (hb : H[b]? = some (.mp es)) :
  ∃ w', (Instr.mapUpdate t cx (.int .i64 k) (.int .i64 v)).run P w = .ok () w' ∧ Sim μ (H.set b (.mp (DK es k v))) w' ∧ Tr μ H w μ (H.set b (.mp (DK es k v))) w' := by
 obtain ⟨kt, et, q, h1, h2, h3, h4⟩ := hk
 simp only [VR] at hx
 obtain ⟨x, hx, rfl⟩ := hx
 obtain ⟨m, cl, m1, m2⟩ := s.mp b x es hx hb
 unfold Instr.mapUpdate
 simp only [Sem.run_bind, Av h1, Result.andThen_ok, Og m1, Sem.run_pure, Kr h2 _ 9999]
 rcases Hd k es m.toList 0 m2 with ⟨g1, g2⟩ | ⟨b', j, e', g1, g2, g3, g4, g5⟩
 ·rw [HC h2 g2]
  simp only [Result.andThen_ok, Oh m1]
  refine ⟨_, rfl, Oq s hx hb _ _ ?_⟩
  rw [Ms g1]
  simp [m2]
 ·rw [HC h2 g2]
  simp only [Nat.zero_add, Array.getElem?_toList] at g3 ⊢
  simp only [Result.andThen_ok, g3, Option.map_some, Option.getD_some, g4, Instr.keyThatStays, Instr.sameBits, beq_self_eq_true, Bool.and_self, if_true, Sem.run_bind, Sem.run_pure, Oh m1]
  refine ⟨_, rfl, Oq s hx hb _ _ ?_⟩
  rw [g5]
  apply List.ext_getElem?
  intro i
  have hi := congrArg (fun l => l[i]?) m2
  simp only [List.getElem?_map, Array.getElem?_toList] at hi
  simp only [List.getElem?_map, Array.getElem?_toList, Array.getElem?_modify, List.getElem?_set]
  by_cases hij : j = i
  ·subst hij
   simp only [if_true, g3, Option.map_some]
   rw [g3] at hi
   have : j < es.length := by
    rcases Nat.lt_or_ge j es.length with h | h
    ·exact h
    ·rw [List.getElem?_eq_none h] at hi; simp at hi
   simp [this]
  ·simp only [hij, if_false]
   exact hi
theorem XA (fit : Fits P T) {H H' : Heap} {w : World} (s : Sim μ H w) {ρ : Operand → Option V} {ρc : Operand → Value} (hρ : ∀ x v, ρ x = some v → VR μ v (ρc x)) {o : Oper} {v : V} (h : memOp T ρ H o.op = some (v, H')) :
  Ix P μ H w (execOp ρc o) v H' := by
 cases ho : o.op <;> rw [ho] at h <;> simp only [memOp, reduceCtorEq] at h
 case alloc t =>
  split at h
  ·rename_i i hT
   simp only [Option.some.injEq, Prod.mk.injEq] at h
   obtain ⟨rfl, rfl⟩ := h
   obtain ⟨q, z, hq, q1, q2, q3, q4, q5, q6⟩ := (fit _ _ hT).info
   obtain ⟨μ', h1, h2, h3⟩ := Jj s t i.zero z.cells (q4 μ) q5
   simp only [execOp, ho]
   refine Ix.EW ⟨.pointer (some ⟨w.heap.size, 0, none⟩), _, μ', ?_, by simp only [VR]; exact ⟨_, h1, rfl⟩, h2, h3⟩
   simp [Instr.alloc, Fq hq q3, newVar, EB]
  ·cases h
 case box t x =>
  split at h
  ·rename_i i u hT hx
   have hu := hρ _ _ hx
   have key : u.isTup = false → (v, H') = (.ptr H.length 0, H ++ [.row u.cells true]) → Ix P μ H w (execOp ρc o) v H' := fun ht e => by
    simp only [Prod.mk.injEq] at e
    obtain ⟨rfl, rfl⟩ := e
    obtain ⟨hc, h1⟩ := VR.cells hu (fun vs e => by subst e; simp [V.isTup] at ht)
    obtain ⟨μ', k1, k2, k3⟩ := Jj s t u.cells (ρc x).cells hc h1
    simp only [execOp, ho]
    refine Ix.EW ⟨.pointer (some ⟨w.heap.size, 0, none⟩), _, μ', ?_, by simp only [VR]; exact ⟨_, k1, rfl⟩, k2, k3⟩
    simp [Instr.box, newVar, EB]
   split at h
   ·cases h
   ·rename_i hnt
    simp only [Option.some.injEq] at h
    exact key (by cases u <;> first | rfl | exact absurd rfl (hnt _)) h.symm
  ·cases h
 case buildSlice t len parts =>
  split at h
  ·rename_i e _ _ _ _ hT
   split at h
   ·rename_i i ps hE hps
    split at h
    ·rename_i hsz
     split at h
     ·rename_i cs hcs
      simp only [Option.some.injEq, Prod.mk.injEq] at h
      obtain ⟨rfl, rfl⟩ := h
      obtain ⟨q, z, hq, q1, q2, q3, q4, q5, q6⟩ := (fit _ _ hE).info
      have hu : P.underlying t = some (.slice e) := (fit _ _ hT).kind
      have hzl : z.cells.size = i.size := by have := (q4 μ).length; simp only [Array.length_toList] at this; omega
      have hz := HX (q4 μ) len
      have hparts := HZ hρ _ hps
      obtain ⟨ws', k1, k2, k3, k4⟩ := KN (pl := FG i.size len) (pl' := fun j => some (j * i.size, i.size)) (fun j p hp => hp) _ _ hz (Ij q5 _) hparts hcs
      obtain ⟨μ', g1, g2, g3⟩ := Jj s e cs ws' k2 k3
      have hcl : cs.length = len * i.size := by rw [k4, EK, q6]
      simp only [execOp, ho]
      refine Ix.EW ⟨.slice (some ⟨w.heap.size, 0, none⟩) len len, _, μ', ?_, ?_, g2, g3⟩
      ·unfold Instr.buildSlice
       simp only [Sem.run_bind, Av hu, Result.andThen_ok, CE hq, Sem.run_pure]
       rw [if_neg (by rw [q1]; omega)]
       rw [hzl] at k1
       by_cases h0 : len * q.size = 0
       ·rw [if_pos h0]
        rw [q1] at h0 ⊢
        have k1' : Instr.fill (fun j => some (j * i.size, i.size)) ((Array.range (len * i.size)).map fun j => (#[] : Array Value)[j % (#[] : Array Value).size]!) (parts.map fun p => (p.1, ρc p.2)).toList = some ws' := by
         simp only [h0, show Array.range 0 = #[] from rfl, List.map_toArray, Array.map_empty] at k1 ⊢
         simpa using k1
        simp only [Sem.run_bind, Sem.run_pure, Result.andThen_ok, k1', EB]
       ·rw [if_neg h0]
        have k1' : Instr.fill (fun j => some (j * i.size, i.size)) ((Array.range (len * i.size)).map fun j => z.cells[j % z.cells.size]!) (parts.map fun p => (p.1, ρc p.2)).toList = some ws' := by
         simp only [hzl]
         simpa using k1
        simp only [Sem.run_bind, Fq hq q3, Sem.run_pure, Result.andThen_ok, q1, k1', EB]
      ·simp only [VR]
       refine ⟨_, len, rfl, Nat.le_refl _, Nat.le_refl _, fun _ => rfl, .inr ⟨_, 0, g1, rfl, by simp only [hcl]; omega, fun _ => rfl⟩⟩
     ·cases h
    ·cases h
   ·cases h
  ·cases h
 case load t x =>
  split at h
  ·rename_i i b off hT hx
   have hx' := hρ _ _ hx
   simp only [VR] at hx'
   obtain ⟨y, hy, ey⟩ := hx'
   have hH : H' = H := by
    split at h
    ·simp only [Option.map_eq_some_iff, Prod.mk.injEq] at h; obtain ⟨_, _, _, rfl⟩ := h; rfl
    ·split at h
     ·simp only [Option.some.injEq, Prod.mk.injEq] at h; exact h.2.symm
     ·cases h
   subst hH
   obtain ⟨cv, h1, h2⟩ := load_sound fit s hT hy h
   simp only [execOp, ho, ey]
   refine Ix.EW ⟨cv, w, μ, ?_, h2, s, Tr.refl _ _ _⟩
   simpa [Instr.loadAt, Instr.sureAddr] using h1
  ·cases h
 case store t x yy =>
  split at h
  ·rename_i i b off u hT hx hyv
   have hx' := hρ _ _ hx
   have hu := hρ _ _ hyv
   simp only [VR] at hx'
   obtain ⟨y, hy, ey⟩ := hx'
   have key : u.isTup = false → (if u.cells.length = i.size then (H.storeN b off u.cells).map fun h' => (V.undef, h') else none) = some (v, H') → Ix P μ H w (execOp ρc o) v H' := fun ht e => by
    split at e
    ·rename_i hl
     simp only [Option.map_eq_some_iff, Prod.mk.injEq] at e
     obtain ⟨h', hst, rfl, rfl⟩ := e
     obtain ⟨w', k1, k2, k3⟩ := Tf fit s hT hy hu ht hl hst
     refine ⟨.skip, w', μ, ?_, .inr ⟨rfl, rfl⟩, k2, k3⟩
     simp only [execOp, ho, ey]
     simp [Instr.storeAt, Instr.sureAddr, k1]
    ·cases e
   split at h
   ·cases h
   ·rename_i hnt
    exact key (by cases u <;> first | rfl | exact absurd rfl (hnt _)) h
  ·cases h
 case makeSlice t n c =>
  split at h
  ·rename_i e _ _ _ _ kn nn kc cc hT hn hc
   split at h
   ·rename_i i hE
    split at h
    ·rename_i hb
     obtain ⟨b1, b2, b3, b4⟩ := hb
     simp only [Option.some.injEq, Prod.mk.injEq] at h
     obtain ⟨rfl, rfl⟩ := h
     obtain ⟨q, z, hq, q1, q2, q3, q4, q5, q6⟩ := (fit _ _ hE).info
     have hu : P.underlying t = some (.slice e) := (fit _ _ hT).kind
     have hzl : z.cells.size = i.size := by have := (q4 μ).length; simp only [Array.length_toList] at this; omega
     have hz := HX (q4 μ) cc.toNat
     have w1 := Na (m := nn) b1 (by omega)
     have w2 := Na (m := cc) (by omega) b4
     obtain ⟨μ', g1, g2, g3⟩ := Jj s e _ _ hz (Ij q5 _)
     simp only [execOp, ho, (hρ _ _ hn).int, (hρ _ _ hc).int]
     refine Ix.EW ⟨.slice (some ⟨w.heap.size, 0, none⟩) nn.toNat cc.toNat, _, μ', ?_, ?_, g2, g3⟩
     ·have hq2 : (q.bytes : Int) = i.bytes := by rw [q2]
      unfold Instr.makeSlice
      simp only [asInt, asIntOf, Sem.run_bind, Av hu, Result.andThen_ok, Cq hq, CE hq, Sem.run_pure, w1, w2, hq2]
      rw [if_neg (by
       simp only [Bool.or_eq_true, decide_eq_true_eq, not_or, Int.not_lt]
       refine ⟨⟨⟨by omega, by omega⟩, by omega⟩, by omega⟩)]
      simp only [Sem.run_bind, run_askRoom, CE hq, Sem.run_pure, Result.andThen_ok]
      by_cases h0 : cc.toNat * q.size = 0
      ·rw [if_pos h0]
       have e0 : ((Array.range (cc.toNat * q.size)).map fun j => (#[] : Array Value)[j % (#[] : Array Value).size]!) = ((Array.range (cc.toNat * z.cells.size)).map fun j => z.cells[j % z.cells.size]!) := by
        rw [hzl, ← q1, h0]; simp [show Array.range 0 = #[] from rfl]
       simp only [Sem.run_bind, Sem.run_pure, Result.andThen_ok, e0, EB]
      ·rw [if_neg h0]
       have e0 : ((Array.range (cc.toNat * q.size)).map fun j => z.cells[j % z.cells.size]!) = ((Array.range (cc.toNat * z.cells.size)).map fun j => z.cells[j % z.cells.size]!) := by
        rw [hzl, ← q1]
       simp only [Sem.run_bind, Fq hq q3, Sem.run_pure, Result.andThen_ok, e0, EB]
     ·simp only [VR]
      refine ⟨_, cc.toNat, rfl, by omega, Nat.le_refl _, fun _ => rfl, .inr ⟨_, 0, g1, rfl, by simp only [EK, q6]; omega, fun _ => rfl⟩⟩
    ·cases h
   ·cases h
  ·cases h
 case convert sT dT x =>
  split at h
  ·rename_i _ _ _ _ e _ _ _ _ b hS hD hx
   split at h
   ·rename_i hE
    simp only [Option.some.injEq, Prod.mk.injEq] at h
    obtain ⟨rfl, rfl⟩ := h
    have hs : P.underlying sT = some .string := (fit _ _ hS).kind
    have hd : P.underlying dT = some (.slice e) := (fit _ _ hD).kind
    have he : P.underlying e = some (.int .u8) := (fit _ _ hE).kind
    obtain ⟨μ', k1, k2, k3⟩ := Xc s e b
    simp only [execOp, ho, (hρ _ _ hx).str]
    exact Ix.EW ⟨_, _, μ', Lib.run_convert_string_bytes w sT dT e b hs hd he, k1, k2, k3⟩
   ·cases h
  ·rename_i e _ _ _ _ _ _ _ _ b off n cap tt sz hS hD hx
   split at h
   ·rename_i hE
    have hs : P.underlying sT = some (.slice e) := (fit _ _ hS).kind
    have hd : P.underlying dT = some .string := (fit _ _ hD).kind
    have he : P.underlying e = some (.int .u8) := (fit _ _ hE).kind
    have hv := hρ _ _ hx
    have hv0 := hv
    simp only [VR] at hv
    obtain ⟨a, c, ey, k1, k2, k3, k45⟩ := hv
    have fin : ∀ (cs : List V) (bs : List UInt8), (H.loadN b off (n * 1) = some cs ∨ (n = 0 ∧ cs = [])) → V.toBytes cs = some bs → (v, H') = (.str ⟨bs.toArray⟩, H) → Ix P μ H w (execOp ρc o) v H' := fun cs bs hl hb e' => by
     simp only [Prod.mk.injEq] at e'
     obtain ⟨rfl, rfl⟩ := e'
     obtain ⟨ws, f1, f2, f3⟩ := DH (P := P) (n := n) (size := 1) s hv0 (by omega) hl
     obtain ⟨ns, e1, e2⟩ := KB hb f2
     have hload : (loadCells a n).run P w = .ok (ns.map (Value.int .u8)).toArray w := by
      have := f1 w rfl
      rw [ey] at this
      simp only [Builtin.firstCells, Nat.mul_one] at this
      rw [this, ← e1]
     simp only [execOp, ho, ey]
     refine Ix.EW ⟨_, w, μ, ?_, VR.MK _, s, Tr.refl _ _ _⟩
     rw [run_convert_bytes_string w sT dT e _ n c hs he hd, run_bytesToString w _ n c ns hload, foldl_push, e2]
     simp
    split at h
    ·rename_i h0
     simp only [Option.some.injEq] at h
     exact fin [] [] (.inr ⟨h0, rfl⟩) rfl h.symm
    ·rename_i h0
     split at h
     ·rename_i cs hl
      split at h
      ·rename_i bs hb
       simp only [Option.some.injEq] at h
       exact fin cs bs (.inl (by rw [Nat.mul_one]; exact hl)) hb h.symm
      ·cases h
     ·cases h
   ·cases h
  ·rename_i e _ _ _ _ _ _ _ _ hS hD hx
   split at h
   ·rename_i hE
    simp only [Option.some.injEq, Prod.mk.injEq] at h
    obtain ⟨rfl, rfl⟩ := h
    have hs : P.underlying sT = some (.slice e) := (fit _ _ hS).kind
    have hd : P.underlying dT = some .string := (fit _ _ hD).kind
    have he : P.underlying e = some (.int .u8) := (fit _ _ hE).kind
    simp only [execOp, ho, (hρ _ _ hx).AN]
    refine Ix.EW ⟨_, w, μ, ?_, VR.MK _, s, Tr.refl _ _ _⟩
    rw [run_convert_bytes_string w sT dT e _ 0 0 hs he hd]
    rfl
   ·cases h
  ·cases h
 case makeMap t r =>
  cases r <;> simp only [memOp, reduceCtorEq, Option.some.injEq, Prod.mk.injEq] at h
  obtain ⟨rfl, rfl⟩ := h
  obtain ⟨k1, k2⟩ := Uy s
  simp only [execOp, ho]
  refine Ix.EW ⟨.map (some w.heap.size), _, _, ?_, by simp only [VR]; exact ⟨_, Mu.De _ _ _, rfl⟩, k1, k2⟩
  simp [Instr.makeMap]
 case lookup t x ix ok =>
  cases ok <;> simp only [memOp, reduceCtorEq] at h
  split at h
  ·rename_i b k hT hx hi
   split at h
   ·rename_i es hb
    simp only [Option.some.injEq, Prod.mk.injEq] at h
    obtain ⟨rfl, rfl⟩ := h
    simp only [execOp, ho, (hρ _ _ hi).int]
    exact Ix.EW ⟨_, w, μ, RA s (fit _ _ hT).kind (hρ _ _ hx) hb, VR.Cu _ _, s, Tr.refl _ _ _⟩
   ·cases h
  ·cases h
 case mapUpdate t x ix yv =>
  split at h
  ·rename_i b k u hT hx hi hy
   split at h
   ·rename_i es hb
    simp only [Option.some.injEq, Prod.mk.injEq] at h
    obtain ⟨rfl, rfl⟩ := h
    obtain ⟨w', k1, k2, k3⟩ := Rk (v := u) (k := k) s (fit _ _ hT).kind (hρ _ _ hx) hb
    refine ⟨.skip, w', μ, ?_, .inr ⟨rfl, rfl⟩, k2, k3⟩
    simp only [execOp, ho, (hρ _ _ hi).int, (hρ _ _ hy).int]
    simp [k1]
   ·cases h
  ·cases h
 case call c =>
  obtain ⟨callee, xs, ts⟩ := c
  cases callee <;> (try simp only [memOp, reduceCtorEq] at h)
  rename_i b
  cases b <;> (try simp only [memOp, reduceCtorEq] at h)
  case append =>
   split at h
   ·rename_i sv x t1 t2 hx hts
    have hxs := FT hρ _ hx
    split at h
    ·rename_i e _ _ _ _ hT
     split at h
     ·rename_i i hE
      split at h
      ·rename_i n news hnw
       obtain ⟨c1, c2, ec, hc1, hc2⟩ := hxs.two
       have ecs : xs.map ρc = #[c1, c2] := BG (by simpa using ec)
       obtain ⟨cv, w', μ', k1, k2, k3, k4⟩ := QZ (t2 := t2) (ty := o.type) fit s (fit _ _ hT).kind hE hc1 (fun hl => RI fit s hE hc2 hnw hl) h
       refine ⟨.value cv, w', μ', HQ ho ?_, .inl ⟨cv, rfl, k2⟩, k3, k4⟩
       rw [ecs, BG hts]
       exact Bd k1
      ·cases h
     ·cases h
    ·cases h
   ·cases h
  case copy =>
   split at h
   ·rename_i sv x t1 t2 hx hts
    have hxs := FT hρ _ hx
    split at h
    ·rename_i e _ _ _ _ e2 _ _ _ _ hT hT2
     split at h
     ·rename_i i hE
      obtain ⟨c1, c2, ec, hc1, hc2⟩ := hxs.two
      have ecs : xs.map ρc = #[c1, c2] := BG (by simpa using ec)
      obtain ⟨cv, w', μ', k1, k2, k3, k4⟩ := Nk (t2 := t2) (ty := o.type) fit s (fit _ _ hT).kind hE hc1 hc2 h
      refine ⟨.value cv, w', μ', HQ ho ?_, .inl ⟨cv, rfl, k2⟩, k3, k4⟩
      rw [ecs, BG hts]
      exact Bd k1
     ·cases h
    ·cases h
   ·cases h
  case clear =>
   split at h
   ·rename_i b off n cap tt sz t1 hx hts
    have hxs := FT hρ _ hx
    split at h
    ·rename_i e _ _ _ _ hT
     split at h
     ·rename_i i hE
      obtain ⟨q, z, hq, q1, q2, q3, q4, q5, q6⟩ := (fit _ _ hE).info
      have hu : P.underlying t1 = some (.slice e) := (fit _ _ hT).kind
      obtain ⟨c1, ec, hc1⟩ := hxs.one
      have ecs : xs.map ρc = #[c1] := BG (by simpa using ec)
      simp only [VR] at hc1
      obtain ⟨a, c, ey, k1, k2, k3, k45⟩ := hc1
      have run : ∀ {w' : World}, (Builtin.clear_ #[t1] o.type #[c1]).run P w = .ok (.tuple #[]) w' → Sim μ H' w' → Tr μ H w μ H' w' → v = .tup [] → Ix P μ H w (execOp ρc o) v H' := fun r1 r2 r3 r4 => by
       subst r4
       refine ⟨.value (.tuple #[]), _, μ, HQ ho ?_, .inl ⟨_, rfl, VR.undef⟩, r2, r3⟩
       rw [ecs, BG hts]
       exact Bd r1
      split at h
      ·rename_i h0
       simp only [Option.some.injEq, Prod.mk.injEq] at h
       obtain ⟨rfl, rfl⟩ := h
       refine run ?_ s (Tr.refl _ _ _) rfl
       rw [ey, h0]
       unfold Builtin.clear_
       simp only [List.getElem?_toArray, List.getElem?_cons_zero, Sem.run_bind, Av hu, Result.andThen_ok, Sem.run_pure]
      ·rename_i h0
       simp only [Option.map_eq_some_iff, Prod.mk.injEq] at h
       obtain ⟨h', hst, rfl, rfl⟩ := h
       rcases k45 with ⟨_, q2⟩ | ⟨y, oo, hy, rfl, k4, k5⟩
       ·omega
       obtain rfl := k5 (by omega)
       obtain ⟨w', r1, r2, r3⟩ := Io P s hy hst (HX (q4 μ) n) (Ij q5 n)
       refine run ?_ r2 r3 rfl
       rw [ey]
       unfold Builtin.clear_
       obtain ⟨n, rfl⟩ : ∃ m, n = m + 1 := ⟨n - 1, by omega⟩
       simp only [List.getElem?_toArray, List.getElem?_cons_zero, Sem.run_bind, Av hu, Result.andThen_ok, Sem.run_pure, Fq hq q3, Builtin.zeroCells]
       rw [r1]
       rfl
     ·cases h
    ·cases h
   ·cases h
end Go.Proofs.YtncjbjlmgnjhiaaGreat.VM
namespace Go.Proofs.YtncjbjlmgnjhiaaGreat.VM
open Go
set_option linter.unusedVariables false
set_option linter.unusedSimpArgs false
variable {P : Program} {T : Tab} {μ : Mu}
abbrev Rel := Nat → List V → Heap → V → Heap → Prop
def Xt (P : Program) (f : Nat) : Prop := ∃ fn, P.funcs[f]? = some fn ∧ fn.body.isNone = false ∧ (fn.name == "runtime.NumGoroutine") = false
def Call (P : Program) : Rel := fun f args H v H' =>
 Xt P f ∧ ∀ (μ : Mu) (w : World) (cargs : Array Value), Sim μ H w → VRs μ args cargs.toList →
  Calls P f cargs w fun e w' => ∃ cv μ', e = .returned cv ∧ VR μ' v cv ∧ Sim μ' H' w' ∧ Tr μ H w μ' H' w'
def Step (P : Program) (T : Tab) (e : Env) (h : Heap) (o : Op) (v : V) (h' : Heap) : Prop :=
 (pureOp T e.ev o = some v ∧ h' = h) ∨ memOp T e.ev h o = some (v, h') ∨
 (∃ f xs ts g caps vs, o = .call { callee := .value f, args := xs, argTypes := ts } ∧ e.ev f = some (.fn g caps) ∧ evs e.ev xs.toList = some vs ∧ Call P g (vs ++ caps) h v h')
def touches : Op → Bool
 | .move _ | .assign _ | .pick .. | .build .. | .nilCheck _ | .binOp .. | .unOp .. | .makeFunc .. | .slice .. | .fieldAddr .. | .field .. | .indexAddr .. | .index .. | .extract .. => false
 | .call { callee := .builtin .len, .. } | .call { callee := .builtin .cap, .. } | .call { callee := .builtin .min, .. } | .call { callee := .builtin .max, .. } => false
 | _ => true
theorem Sq {ρ : Operand → Option V} {h : Heap} {o : Op} {r : V × Heap} (hm : memOp T ρ h o = some r) : touches o = true := by
 cases o <;> first | rfl | (simp only [memOp, reduceCtorEq] at hm) | skip
 rename_i c
 obtain ⟨callee, xs, ts⟩ := c
 cases callee <;> first | rfl | skip
 rename_i b
 cases b <;> first | rfl | (simp only [memOp, reduceCtorEq] at hm)
theorem GQ {ρ ρ' : Operand → Option V} : ∀ (xs : List Operand), (∀ x ∈ xs, ρ x = ρ' x) → evs ρ xs = evs ρ' xs
 | [], _ => rfl
 | x :: xs, h => by simp only [evs]; rw [h x (by simp), GQ xs (fun y hy => h y (by simp [hy]))]
theorem HY {ρ ρ' : Operand → Option V} : ∀ (xs : List (Nat × Operand)), (∀ x ∈ xs.map (·.2), ρ x = ρ' x) → evParts ρ xs = evParts ρ' xs
 | [], _ => rfl
 | (i, x) :: xs, h => by simp only [evParts]; rw [h x (by simp), HY xs (fun y hy => h y (by simp at hy ⊢; exact .inr hy))]
theorem JO {ρ ρ' : Operand → Option V} {x : Option Operand} (h : ∀ y, x = some y → ρ y = ρ' y) : optEv ρ x = optEv ρ' x := by
 cases x with
 | none => rfl
 | some y => simp only [optEv, h y rfl]
theorem pure_congr {ρ ρ' : Operand → Option V} {o : Op} (h : ∀ x ∈ o.operands, ρ x = ρ' x) : pureOp T ρ o = pureOp T ρ' o := by
 cases o <;> simp only [Op.operands] at h <;> (try rfl)
 case move x => simpa [pureOp] using h
 case assign x => simpa [pureOp] using h
 case pick a b c => simp only [pureOp, h a (by simp), h b (by simp), h c (by simp)]
 case build t ps => simp only [pureOp]; rw [HY ps.toList (fun x hx => h x (by simpa using hx))]
 case nilCheck x => simp only [pureOp, h x (by simp)]
 case binOp op t x y u => simp only [pureOp, h x (by simp), h y (by simp)]
 case unOp op t x => simp only [pureOp, h x (by simp)]
 case convert s d x => simp only [pureOp, h x (by simp)]
 case makeFunc f first caps =>
  cases f <;> (try rfl)
  simp only [pureOp]; rw [GQ caps.toList (fun x hx => h x (by simp at hx ⊢; exact .inr hx))]
 case slice t x lo hi mx =>
  simp only [pureOp, h x (by simp), JO (x := lo) (fun y hy => h y (by subst hy; simp)), JO (x := hi) (fun y hy => h y (by subst hy; simp)), JO (x := mx) (fun y hy => h y (by subst hy; simp))]
 case fieldAddr t x f => simp only [pureOp, h x (by simp)]
 case field t x f => simp only [pureOp, h x (by simp)]
 case indexAddr t x y => simp only [pureOp, h x (by simp), h y (by simp)]
 case index t x y => simp only [pureOp, h x (by simp), h y (by simp)]
 case extract x i => simp only [pureOp, h x (by simp)]
 case call c =>
  obtain ⟨callee, xs, ts⟩ := c
  cases callee <;> (try rfl)
  simp only [pureOp]
  rw [GQ xs.toList (fun x hx => h x (by simpa [Call.operands] using hx))]
theorem mem_congr {ρ ρ' : Operand → Option V} {hp : Heap} {o : Op} (h : ∀ x ∈ o.operands, ρ x = ρ' x) : memOp T ρ hp o = memOp T ρ' hp o := by
 cases o <;> simp only [Op.operands] at h <;> (try rfl)
 case box t x => simp only [memOp, h x (by simp)]
 case buildSlice t n ps => simp only [memOp]; rw [HY ps.toList (fun x hx => h x (by simpa using hx))]
 case load t x => simp only [memOp, h x (by simp)]
 case store t x y => simp only [memOp, h x (by simp), h y (by simp)]
 case convert s d x => simp only [memOp, h x (by simp)]
 case makeSlice t x y => simp only [memOp, h x (by simp), h y (by simp)]
 case lookup t x y c => cases c <;> simp only [memOp, h x (by simp), h y (by simp)]
 case makeMap t r => cases r <;> rfl
 case mapUpdate t x y z => simp only [memOp, h x (by simp), h y (by simp), h z (by simp)]
 case call c =>
  obtain ⟨callee, xs, ts⟩ := c
  cases callee <;> (try rfl)
  rename_i b
  cases b <;> (try rfl) <;> (simp only [memOp]; rw [GQ xs.toList (fun x hx => h x (by simpa [Call.operands] using hx))])
def Mf (μ : Mu) (e : Env) (a : Act) (o : Op) : Prop := ∀ x ∈ o.operands, ∀ v, e.ev x = some v → VR μ v (a.eval x)
open Classical in
theorem Ps {e : Env} {a : Act} {o : Op} (hl : Mf μ e a o) : ∃ ρ : Operand → Option V, (∀ x ∈ o.operands, e.ev x = ρ x) ∧ ∀ x v, ρ x = some v → VR μ v (a.eval x) :=
 ⟨fun x => if x ∈ o.operands then e.ev x else none, fun x hx => by simp [hx], fun x v h => by
  by_cases hx : x ∈ o.operands
  ·simp only [hx, if_true] at h; exact hl x hx v h
  ·simp [hx] at h⟩
theorem cO {μ' : Mu} {o : Oper} {a : Act} {next : Act → World → Prop} {Q : Exit → Act → World → Prop} {v : V} {nx : Next} {w' : World} (h : Nx μ' v nx) (hn : ∀ cv, VR μ' v cv → next (a.put o.dst cv) w') : o.upon P a next Q (.ok nx w') := by
 rcases h with ⟨cv, rfl, hv⟩ | ⟨rfl, rfl⟩
 ·exact hn cv hv
 ·exact hn undef VR.undef
theorem Vw (fit : Fits P T) {e : Env} {a : Act} {o : Oper} {v : V} (hl : Mf μ e a o.op) (h : pureOp T e.ev o.op = some v) : ∃ cv, VR μ v cv ∧ ∀ w, (execOp a.eval o).run P w = .ok (.value cv) w := by
 obtain ⟨ρ, h1, h2⟩ := Ps hl
 rw [pure_congr h1] at h
 exact Ui fit h2 h
theorem Ug (fit : Fits P T) {e : Env} {a : Act} {o : Oper} {v : V} {h h' : Heap} {w : World} (s : Sim μ h w) (hl : Mf μ e a o.op) (st : Step P T e h o.op v h')
  {next : Act → World → Prop} {Q : Exit → Act → World → Prop} (hn : ∀ cv w' μ', VR μ' v cv → Sim μ' h' w' → Tr μ h w μ' h' w' → next (a.put o.dst cv) w') : o.wp P a w next Q := by
 obtain ⟨ρ, h1, h2⟩ := Ps hl
 rcases st with ⟨hp, rfl⟩ | hm | ⟨f, xs, ts, g, caps, vs, ho, hf, hxs, hc⟩
 ·obtain ⟨cv, k1, k2⟩ := Vw fit hl hp
  unfold Oper.wp
  rw [k2 w]
  exact hn cv w μ k1 s (Tr.refl _ _ _)
 ·rw [mem_congr h1] at hm
  obtain ⟨nx, w', μ', k1, k2, k3, k4⟩ := XA fit s h2 hm
  unfold Oper.wp
  rw [k1]
  exact cO k2 (fun cv hv => hn cv w' μ' hv k3 k4)
 ·obtain ⟨⟨fn, g1, g2, g3⟩, hcall⟩ := hc
  have hops : ∀ x ∈ #[f] ++ xs, x ∈ o.op.operands := fun x hx => by rw [ho]; simpa [Op.operands, Call.operands] using hx
  have hfv := hl f (hops f (by simp)) _ hf
  simp only [VR] at hfv
  obtain ⟨cw, ef, hcw⟩ := hfv
  have hxs' : VRs μ vs (xs.toList.map a.eval) := by
   have : evs ρ xs.toList = some vs := by
    rw [← hxs]; exact (GQ _ (fun x hx => h1 x (hops x (by simp at hx ⊢; exact .inr hx)))).symm
   exact FT h2 _ this
  have hargs : VRs μ (vs ++ caps) ((xs.map a.eval ++ cw).toList) := by simpa using hxs'.append hcw
  have hrun : (execOp a.eval o).run P w = .ok (.enter g (xs.map a.eval ++ cw)) w := by
   simp only [execOp, ho, resolve, Deferred.ofValue, ef, Sem.run_bind, Sem.run_pure, Result.andThen_ok, invoke, callFunc, run_program, g1, g2, g3]
   simp
  unfold Oper.wp
  rw [hrun]
  refine (hcall μ w _ s hargs).mono ?_
  rintro e' w' ⟨cv, μ', rfl, q1, q2, q3⟩
  exact hn cv w' μ' q1 q2 q3
def FR (μ : Mu) (e : Env) (tmps : Array Value) : Prop := VRs μ e tmps.toList
theorem FR.looks {e : Env} {a : Act} (h : FR μ e a.tmps) (o : Op) : Mf μ e a o := fun x _ v hv => by
 cases x with
 | tmp t =>
  obtain ⟨w, hw, hr⟩ := VRs.get h hv
  simp only [Array.getElem?_toList] at hw
  simp only [Act.eval, Array.getD_eq_getD_getElem?, hw, Option.getD_some]
  exact hr
 | const c => exact VR.Fm c hv
 | func f =>
  simp only [Env.ev, Option.some.injEq] at hv
  subst hv
  simp only [VR, Act.eval]
  exact ⟨#[], rfl, by simp [VRs]⟩
 | global g => simp [Env.ev] at hv
def Env.put (e : Env) : Option Nat → V → Env
 | some d, v => e.set d v
 | none, _ => e
theorem FR.put {e : Env} {a : Act} (h : FR μ e a.tmps) (d : Option Nat) {v : V} {cv : Value} (hv : VR μ v cv) : FR μ (e.put d v) (a.put d cv).tmps := by
 cases d with
 | none => exact h
 | some d =>
  simp only [FR, Env.put, Act.put, Array.toList_setIfInBounds]
  exact VRs.set h d hv
def guardOf (ops : Array Oper) (e : Env) (o : Oper) : Bool :=
 match o.guard with
 | none => true
 | some (j, want) => match ((ops[j]?).bind (·.dst)).bind (e[·]?) with
  | some (.bool b) => b == want
  | _ => false
theorem VR.isBool {v : V} {b : Bool} (h : VR μ v (.bool b)) : v = .bool b := by
 cases v <;> simp only [VR] at h
 case bool => cases h; rfl
 case ptr => obtain ⟨_, _, h⟩ := h; cases h
 case slc => obtain ⟨_, _, h, _⟩ := h; cases h
 case map => obtain ⟨_, _, h⟩ := h; cases h
 case fn => obtain ⟨_, h, _⟩ := h; cases h
 case agg => obtain ⟨_, h, _⟩ := h; cases h
 case tup => obtain ⟨_, h, _⟩ := h; cases h
 all_goals cases h
def Fh (ops : Array Oper) (o : Oper) : Option Nat :=
 match o.guard with
 | none => none
 | some (j, _) => (ops[j]?).bind (·.dst)
theorem MA {ops : Array Oper} {e : Env} {a : Act} {o : Oper} (h : ∀ t, Fh ops o = some t → ∃ v cv, e[t]? = some v ∧ a.tmps[t]? = some cv ∧ VR μ v cv) : Region.wanted o (yielded ops a.tmps) = guardOf ops e o := by
 unfold Region.wanted guardOf
 cases hg : o.guard with
 | none => rfl
 | some jw =>
  obtain ⟨j, want⟩ := jw
  simp only
  unfold yielded
  cases hd : (ops[j]?).bind (·.dst) with
  | none => rfl
  | some t =>
   obtain ⟨v, cv, h1, h2, h3⟩ := h t (by simp [Fh, hg, hd])
   simp only [Option.bind_some, h1, h2]
   by_cases hb : ∃ b, v = .bool b
   ·obtain ⟨b, rfl⟩ := hb
    rw [h3.bool]
    simp
   ·have hb' : ∀ b, cv ≠ .bool b := fun b e => by subst e; exact hb ⟨b, h3.isBool⟩
    cases cv <;> first | exact absurd rfl (hb' _) | (cases v <;> first | exact absurd ⟨_, rfl⟩ hb | rfl)
theorem FR.guard {ops : Array Oper} {e : Env} {a : Act} (h : FR μ e a.tmps) (hlt : ∀ o t, Fh ops o = some t → t < e.length) (o : Oper) : Region.wanted o (yielded ops a.tmps) = guardOf ops e o := by
 refine MA (μ := μ) fun t ht => ?_
 have hl := hlt o t ht
 obtain ⟨w, hw, hr⟩ := VRs.get h (i := t) (v := e[t]) (by simp [hl])
 exact ⟨e[t], w, by simp [hl], by simpa using hw, hr⟩
theorem Qs {ops : Array Oper} {e : Env} {a : Act} (h : FR μ e a.tmps) (o : Oper) : Region.wanted o (yielded ops a.tmps) = guardOf ops e o := by
 have hlen : a.tmps.size = e.length := by simpa using VRs.length h
 by_cases hh : ∃ t, Fh ops o = some t ∧ e.length ≤ t
 ·obtain ⟨t, ht, hge⟩ := hh
  unfold Fh at ht
  unfold Region.wanted guardOf
  cases hg : o.guard with
  | none => rfl
  | some jw =>
   obtain ⟨j, want⟩ := jw
   rw [hg] at ht
   simp only at ht ⊢
   unfold yielded
   rw [ht]
   simp only [Option.bind_some]
   rw [List.getElem?_eq_none hge, Array.getElem?_eq_none (by omega)]
   rfl
 ·refine MA (μ := μ) fun t ht => ?_
  have hl : t < e.length := by
   apply Nat.lt_of_not_le
   intro hge
   exact hh ⟨t, ht, hge⟩
  obtain ⟨w, hw, hr⟩ := VRs.get h (i := t) (v := e[t]) (by simp [hl])
  exact ⟨e[t], w, by simp [hl], by simpa using hw, hr⟩
end Go.Proofs.YtncjbjlmgnjhiaaGreat.VM
