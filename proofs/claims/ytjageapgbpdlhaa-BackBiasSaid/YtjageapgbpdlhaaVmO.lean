/- THE SMALL MACHINE, part O: what is handed in, as the small machine sees it. -/
import Derived.Test.YtjageapgbpdlhaaVmN
import Derived.SizedLaws
import Derived.ChangeArms
namespace Go.Proofs.Ytjageapgbpdlhaa.VM
open Go
set_option linter.unusedVariables false
set_option linter.unusedSimpArgs false

variable {P : Program} {T : Tab}

/-- what was handed in reads as d: its blocks are read only, and its numbers are of their kinds -/
inductive Rd (T : Tab) (K : Heap) {D : Type} : Nat → List V → DataW D → Prop
  | bool {t i b} (h : T t = some i) (hk : i.k = .bool) : Rd T K t [.bool b] (.lit (.bool b))
  | int {t i k n} (h : T t = some i) (hk : i.k = .int k) (lo : k.min ≤ n) (hi : n ≤ k.max) : Rd T K t [.int k n] (.lit (.int k n))
  | str {t i s} (h : T t = some i) (hk : i.k = .str) (hs : s.size ≤ reachBytes) : Rd T K t [.str s] (.lit (.string s.data.toList))
  | nils {t i e} (h : T t = some i) (hk : i.k = .slice e) : Rd T K t [.nils] .nil
  | slc {t i e ie b len cap cs elems spare} (h : T t = some i) (hk : i.k = .slice e) (he : T e = some ie) (hl : elems.length = len) (hc : elems.length + spare.length = cap) (hb : cap * ie.bytes ≤ reachBytes)
      (hr : K[b]? = some (.row cs false)) (hcs : cs.length = cap * ie.size) (hd : ∀ (j : Nat) x, (elems ++ spare)[j]? = some x → Rd T K e ((cs.drop (j * ie.size)).take ie.size) x) :
      Rd T K t [.slc b 0 len cap true ie.size] (.slice elems spare)
  | strct {t i fs cs parts} (h : T t = some i) (hk : i.k = .strct fs) (hl : cs.length = i.size) (hp : parts.length = fs.length)
      (hd : ∀ (j : Nat) f fi x, fs[j]? = some f → T f.1 = some fi → parts[j]? = some x → Rd T K f.1 ((cs.drop f.2).take fi.size) x) : Rd T K t cs (.agg parts)

theorem Rd.mono {D : Type} {K K' : Heap} (hp : K <+: K') {t : Nat} {cs : List V} {d : DataW D} (h : Rd T K t cs d) : Rd T K' t cs d := by
  induction h with
  | bool h hk => exact .bool h hk
  | int h hk lo hi => exact .int h hk lo hi
  | str h hk hs => exact .str h hk hs
  | nils h hk => exact .nils h hk
  | slc h hk he hl hc hb hr hcs _ ih =>
    refine .slc h hk he hl hc hb ?_ hcs ih
    obtain ⟨l, rfl⟩ := hp
    rw [List.getElem?_append_left (List.getElem?_eq_some_iff.1 hr).1]
    exact hr
  | strct h hk hl hp' _ ih => exact .strct h hk hl hp' ih

/-- no block of it may be written -/
def Ro (K : Heap) : Prop := ∀ (b : Nat) k, K[b]? = some k → k.own = false

theorem Ro.snoc {K : Heap} (h : Ro K) (cs : List V) : Ro (K ++ [.row cs false]) := fun b k hk => by
  rcases get_snoc hk with ⟨_, rfl⟩ | ⟨_, hk⟩
  · rfl
  · exact h b k hk

theorem sim_seen {μ : Mu} {K : Heap} {w : World} (s : Sim μ K w) (ro : Ro K) {y : Loc} {cs : List V} (hB : y.B < w.heap.size) (hl : cs.length ≤ y.n) (hext : ∀ i, i < y.n → ∃ u, w.cell? ⟨y.B, y.o + i, none⟩ = some u)
    (hcs : ∀ (i : Nat) v, cs[i]? = some v → v.one = true ∧ ∃ cv, w.cell? ⟨y.B, y.o + i, none⟩ = some cv ∧ VR μ v cv) : Sim (μ.put K.length y) (K ++ [.row cs false]) w := by
  have hle : Mu.Le μ (μ.put K.length y) := Mu.le_put _ s.none_len
  have split : ∀ b x, μ.put K.length y b = some x → (b = K.length ∧ x = y) ∨ (b ≠ K.length ∧ μ b = some x) := fun b x hx => by
    by_cases hb : b = K.length
    · subst hb; rw [Mu.put_same] at hx; exact .inl ⟨rfl, (Option.some.inj hx).symm⟩
    · rw [Mu.put_ne _ hb] at hx; exact .inr ⟨hb, hx⟩
  have rro := ro.snoc cs
  refine ⟨fun b x hx => ?_, fun b x ds wr hx hb i v hi => ?_, fun b x ds wr hx hb => ?_, fun b x ds hx hb i hi => ?_, fun b x k hx hb ho => ?_, fun b x es hx hb => ?_⟩
  · rcases split b x hx with ⟨rfl, rfl⟩ | ⟨_, hx⟩
    · exact ⟨by simp, hB⟩
    · have := s.lt b x hx; exact ⟨by simp; omega, this.2⟩
  · rcases split b x hx with ⟨rfl, rfl⟩ | ⟨hne, hx⟩
    · simp at hb
      obtain ⟨rfl, rfl⟩ := hb
      obtain ⟨h1, cv, h2, h3⟩ := hcs i v hi
      exact ⟨h1, cv, h2, h3.mono hle⟩
    · rcases get_snoc hb with ⟨e, _⟩ | ⟨_, hb⟩
      · exact absurd e hne
      · obtain ⟨h1, cv, h2, h3⟩ := s.row b x ds wr hx hb i v hi
        exact ⟨h1, cv, h2, h3.mono hle⟩
  · rcases split b x hx with ⟨rfl, rfl⟩ | ⟨hne, hx⟩
    · simp at hb
      obtain ⟨rfl, rfl⟩ := hb
      exact ⟨hl, hext⟩
    · rcases get_snoc hb with ⟨e, _⟩ | ⟨_, hb⟩
      · exact absurd e hne
      · exact s.ext b x ds wr hx hb
  · have := rro b _ hb; simp [Blk.own] at this
  · have := rro b _ hb; rw [this] at ho; cases ho
  · have := rro b _ hb; simp [Blk.own] at this

theorem sim_empty {μ : Mu} {K : Heap} {w : World} (s : Sim μ K w) (ro : Ro K) : Sim μ (K ++ [.row [] false]) w := by
  have rro := ro.snoc []
  have back : ∀ {b x k}, μ b = some x → (K ++ [.row [] false])[b]? = some k → K[b]? = some k := fun {b x k} hx hb => by
    rcases get_snoc hb with ⟨rfl, _⟩ | ⟨_, hb⟩
    · rw [s.none_len] at hx; cases hx
    · exact hb
  refine ⟨fun b x hx => ?_, fun b x ds wr hx hb => s.row b x ds wr hx (back hx hb), fun b x ds wr hx hb => s.ext b x ds wr hx (back hx hb), fun b x ds hx hb => s.free b x ds hx (back hx hb), fun b x k hx hb ho => ?_, fun b x es hx hb => s.mp b x es hx (back hx hb)⟩
  · have := s.lt b x hx; exact ⟨by simp; omega, this.2⟩
  · have := rro b _ hb; rw [this] at ho; cases ho

theorem mapM_some {α β : Type} {f : α → Option β} : ∀ {l : List α} {ys : List β}, l.mapM f = some ys → ys.length = l.length ∧ ∀ (i : Nat) x, l[i]? = some x → ∃ y, ys[i]? = some y ∧ f x = some y
  | [], ys, h => by simp at h; subst h; simp
  | a :: l, ys, h => by
    rw [List.mapM_cons] at h
    cases hf : f a with
    | none => rw [hf] at h; simp at h
    | some y =>
      rw [hf] at h
      cases hl : l.mapM f with
      | none => rw [hl] at h; simp at h
      | some zs =>
        rw [hl] at h
        simp at h
        subst h
        obtain ⟨h1, h2⟩ := mapM_some hl
        refine ⟨by simp [h1], fun i x hx => ?_⟩
        cases i with
        | zero => simp at hx; subst hx; exact ⟨y, by simp, hf⟩
        | succ i => simpa using h2 i x (by simpa using hx)

/-- fields that lie one behind the other -/
def tiles (T : Tab) : Nat → List (Nat × Nat) → Option Nat
  | o, [] => some o
  | o, (t, off) :: fs => match T t with
    | some i => if off = o then tiles T (o + i.size) fs else none
    | none => none

/-- a type that may be handed in -/
def readable (T : Tab) : Nat → Nat → Bool
  | 0, _ => false
  | n + 1, t => match T t with
    | some i => match i.k with
      | .bool | .int _ | .str => true
      | .slice e => readable T n e && (match T e with | some ie => decide (0 < ie.size) | none => false)
      | .strct fs => fs.all (fun f => readable T n f.1) && tiles T 0 fs == some i.size
      | _ => false
    | none => false

/-- what one reading gives -/
def Sees (T : Tab) (w : World) {D : Type} (μ : Mu) (K : Heap) (t : Nat) (cs : List Value) (d : DataW D) (μ' : Mu) (K' : Heap) : Prop :=
  Sim μ' K' w ∧ Ro K' ∧ Mu.Le μ μ' ∧ K <+: K' ∧ ∃ vs, VRs μ' vs cs ∧ (∀ v ∈ vs, v.one = true) ∧ Rd T K' t vs d

/-- readings one behind the other -/
theorem sees_all {D : Type} {w : World} : ∀ (L : List (Nat × List Value × DataW D)), (∀ x ∈ L, ∀ μ K, Sim μ K w → Ro K → ∃ μ' K', Sees T w μ K x.1 x.2.1 x.2.2 μ' K') → ∀ μ K, Sim μ K w → Ro K →
    ∃ (μ' : Mu) (K' : Heap) (vss : List (List V)), Sim μ' K' w ∧ Ro K' ∧ Mu.Le μ μ' ∧ K <+: K' ∧ vss.length = L.length ∧ ∀ (j : Nat) x vs, L[j]? = some x → vss[j]? = some vs → VRs μ' vs x.2.1 ∧ (∀ v ∈ vs, v.one = true) ∧ Rd T K' x.1 vs x.2.2
  | [], _, μ, K, s, ro => ⟨μ, K, [], s, ro, Mu.Le.refl _, List.prefix_refl _, rfl, by simp⟩
  | x :: L, h, μ, K, s, ro => by
    obtain ⟨μ1, K1, s1, r1, l1, p1, vs, v1, v2, v3⟩ := h x (by simp) μ K s ro
    obtain ⟨μ2, K2, vss, s2, r2, l2, p2, g1, g2⟩ := sees_all L (fun y hy => h y (by simp [hy])) μ1 K1 s1 r1
    refine ⟨μ2, K2, vs :: vss, s2, r2, l1.trans l2, p1.trans p2, by simp [g1], fun j y us hy hu => ?_⟩
    cases j with
    | zero =>
      simp at hy hu
      subst hy; subst hu
      exact ⟨v1.mono l2, v2, v3.mono p2⟩
    | succ j => exact g2 j y us (by simpa using hy) (by simpa using hu)

theorem VRs.flatten {μ : Mu} : ∀ {vss : List (List V)} {wss : List (List Value)}, vss.length = wss.length → (∀ (j : Nat) vs ws, vss[j]? = some vs → wss[j]? = some ws → VRs μ vs ws) → VRs μ vss.flatten wss.flatten
  | [], [], _, _ => by simp [VRs]
  | vs :: vss, ws :: wss, hl, h => by
    simp only [List.flatten_cons]
    exact (h 0 vs ws rfl rfl).append (VRs.flatten (by simpa using hl) fun j a b ha hb => h (j + 1) a b (by simpa using ha) (by simpa using hb))
  | [], _ :: _, hl, _ => by simp at hl
  | _ :: _, [], hl, _ => by simp at hl

theorem flatten_length {α : Type} {n : Nat} : ∀ {l : List (List α)}, (∀ x ∈ l, x.length = n) → l.flatten.length = l.length * n
  | [], _ => by simp
  | x :: l, h => by
    simp only [List.flatten_cons, List.length_append, List.length_cons, h x (by simp), flatten_length (l := l) fun y hy => h y (by simp [hy])]
    rw [Nat.add_mul]; omega

theorem flatten_part {α : Type} {n : Nat} : ∀ {l : List (List α)}, (∀ x ∈ l, x.length = n) → ∀ {j : Nat} {x : List α}, l[j]? = some x → (l.flatten.drop (j * n)).take n = x
  | [], _, _, _, h => by simp at h
  | y :: l, h, 0, x, hx => by
    simp at hx; subst hx
    have := h y (by simp)
    simp only [List.flatten_cons, Nat.zero_mul, List.drop_zero]
    rw [List.take_append_of_le_length (by omega), List.take_of_length_le (by omega)]
  | y :: l, h, j + 1, x, hx => by
    have hy := h y (by simp)
    simp only [List.flatten_cons]
    rw [show (j + 1) * n = y.length + j * n by rw [hy, Nat.add_mul]; omega, ← List.drop_drop, List.drop_left]
    exact flatten_part (l := l) (fun z hz => h z (by simp [hz])) (by simpa using hx)

theorem tiles_le : ∀ {fs : List (Nat × Nat)} {o e : Nat}, tiles T o fs = some e → o ≤ e
  | [], o, e, h => by simp only [tiles, Option.some.injEq] at h; omega
  | (t, off) :: fs, o, e, h => by
    simp only [tiles] at h
    split at h
    · split at h
      · have := tiles_le h; omega
      · cases h
    · cases h

theorem tiles_in : ∀ {fs : List (Nat × Nat)} {o e : Nat}, tiles T o fs = some e → ∀ {j : Nat} {f : Nat × Nat} {i : TI}, fs[j]? = some f → T f.1 = some i → o ≤ f.2 ∧ f.2 + i.size ≤ e
  | [], o, e, _, j, f, i, hf, _ => by simp at hf
  | (t, off) :: fs, o, e, h, j, f, i, hf, hi => by
    simp only [tiles] at h
    split at h
    · rename_i i0 hi0
      split at h
      · rename_i ho
        cases j with
        | zero =>
          simp at hf; subst hf
          obtain rfl : i = i0 := Option.some.inj (hi.symm.trans hi0)
          have := tiles_le h
          simp only; omega
        | succ j =>
          have := tiles_in h (by simpa using hf) hi
          omega
      · cases h
    · cases h

theorem tiles_flat {α : Type} {cs : List α} : ∀ {fs : List (Nat × Nat)} {o e : Nat} {l : List (List α)}, tiles T o fs = some e → e ≤ cs.length → l.length = fs.length →
    (∀ (j : Nat) f i x, fs[j]? = some f → T f.1 = some i → l[j]? = some x → x = (cs.drop f.2).take i.size) → l.flatten = (cs.drop o).take (e - o)
  | [], o, e, l, h, _, hl, _ => by
    simp only [tiles, Option.some.injEq] at h
    subst h
    have : l = [] := by simpa using hl
    subst this; simp
  | (t, off) :: fs, o, e, [], h, _, hl, _ => by simp at hl
  | (t, off) :: fs, o, e, x :: l, h, he, hl, hx => by
    simp only [tiles] at h
    split at h
    · rename_i i hi
      split at h
      · rename_i ho
        subst ho
        have hle := tiles_le h
        have h0 := hx 0 _ i x rfl hi rfl
        have ih := tiles_flat (cs := cs) (l := l) h he (by simpa using hl) fun j f i' y hf hi' hy => hx (j + 1) f i' y (by simpa using hf) hi' (by simpa using hy)
        simp only at h0
        rw [List.flatten_cons, ih, h0]
        have e2 : e - off = i.size + (e - (off + i.size)) := by omega
        rw [e2, List.take_add, List.drop_drop]
      · cases h
    · cases h

theorem tiles_part {α : Type} : ∀ {fs : List (Nat × Nat)} {o e : Nat} {l : List (List α)}, tiles T o fs = some e → l.length = fs.length →
    (∀ (j : Nat) f i x, fs[j]? = some f → T f.1 = some i → l[j]? = some x → x.length = i.size) → ∀ {j : Nat} {f : Nat × Nat} {i : TI} {x : List α}, fs[j]? = some f → T f.1 = some i → l[j]? = some x → (l.flatten.drop (f.2 - o)).take i.size = x
  | [], _, _, _, _, _, _, _, _, _, _, hf, _, _ => by simp at hf
  | (t, off) :: fs, o, e, [], _, hl, _, _, _, _, _, _, _, _ => by simp at hl
  | (t, off) :: fs, o, e, y :: l, h, hl, hx, j, f, i, x, hf, hi, hj => by
    simp only [tiles] at h
    split at h
    · rename_i i0 hi0
      split at h
      · rename_i ho
        subst ho
        have hy := hx 0 _ i0 y rfl hi0 rfl
        cases j with
        | zero =>
          simp at hf hj
          subst hf; subst hj
          obtain rfl : i = i0 := Option.some.inj (hi.symm.trans hi0)
          simp only [Nat.sub_self, List.drop_zero, List.flatten_cons]
          rw [List.take_append_of_le_length (by omega), List.take_of_length_le (by omega)]
        | succ j =>
          have hin := tiles_in h (by simpa using hf) hi
          have ih := tiles_part (l := l) h (by simpa using hl) (fun j f i' y hf hi' hy => hx (j + 1) f i' y (by simpa using hf) hi' (by simpa using hy)) (by simpa using hf) hi (by simpa using hj)
          rw [List.flatten_cons, show f.2 - off = y.length + (f.2 - (off + i0.size)) by omega, ← List.drop_drop, List.drop_left]
          exact ih
      · cases h
    · cases h

theorem weightsAll_mem {D : Type} {e : TypeId} {m : Nat} : ∀ {l : List (DataW D)} {j : Nat} {d : DataW D}, l[j]? = some d → m ∈ d.weights P e → m ∈ DataW.weightsAll P e l
  | [], _, _, h, _ => by simp at h
  | x :: l, 0, d, h, hm => by simp at h; subst h; simp only [DataW.weightsAll, List.mem_append]; exact .inl hm
  | x :: l, j + 1, d, h, hm => by simp only [DataW.weightsAll, List.mem_append]; exact .inr (weightsAll_mem (by simpa using h) hm)

theorem cells_at {w : World} {a : Addr} {n : Nat} {cs : List Value} (h : w.cells? 0 a n = some cs) : cs.length = n ∧ ∀ (i : Nat) v, cs[i]? = some v → w.cell? (a.add i) = some v := by
  unfold World.cells? at h
  simp only [Nat.zero_le, if_true] at h
  obtain ⟨h1, h2⟩ := mapM_some h
  simp only [List.length_range] at h1
  refine ⟨h1, fun i v hv => ?_⟩
  have hi : i < n := by rw [← h1]; exact (List.getElem?_eq_some_iff.1 hv).1
  obtain ⟨y, hy, hc⟩ := h2 i i (by simp [hi])
  rw [hv] at hy
  obtain rfl := Option.some.inj hy
  exact hc

theorem cell_plain {w : World} {a : Addr} {v : Value} (h : w.cell? a = some v) : a.spot = none ∧ a.block < w.heap.size := by
  unfold World.cell? at h
  split at h
  · rename_i hb
    split at h
    · cases h
    · rename_i hs
      exact ⟨by simpa using hs, (Array.getElem?_eq_some_iff.1 hb).1⟩
  · cases h

theorem add_add (a : Addr) (m n : Nat) : (a.add m).add n = a.add (m + n) := by
  unfold Addr.add
  by_cases hm : m = 0
  · subst hm; simp
  · by_cases hn : n = 0
    · subst hn; simp [hm]
    · rw [if_neg hm, if_neg hn, if_neg (by omega)]; simp [Nat.add_assoc]

/-- WHAT IS HANDED IN, IN THE SMALL MACHINE's MEMORY -/
theorem trod_sees (fit : Fits P T) {D : Type} {enc : TypeId × Value → D} {w : World} : ∀ (fuel n : Nat) (t : Nat) (cs : List Value) (d : DataW D) (ps : List MemPlace), readable T n t = true → DataW.trod enc P w 0 (fun _ => true) true fuel t cs = some (d, ps) →
    (∀ m ∈ d.weights P t, m ≤ reachBytes) → ∀ (μ : Mu) (K : Heap), Sim μ K w → Ro K → ∃ μ' K', Sees T w μ K t cs d μ' K' := by
  intro fuel
  induction fuel with
  | zero => intro n t cs d ps _ h; simp [DataW.trod] at h
  | succ fuel ih =>
    intro n t cs d ps hr h hw μ K s ro
    cases n with
    | zero => cases hr
    | succ n =>
    unfold readable at hr
    split at hr
    · rename_i i hT
      have hf := fit t i hT
      have hk := hf.kind
      split at hr
      · rename_i hik
        rw [hik] at hk
        obtain ⟨b, rfl, hx⟩ := DataW.trod_bool hk h
        simp only [Prod.mk.injEq] at hx
        obtain ⟨rfl, rfl⟩ := hx
        exact ⟨μ, K, s, ro, Mu.Le.refl _, List.prefix_refl _, [.bool b], by simp [VRs, VR], by simp [V.one], .bool hT hik⟩
      · rename_i k hik
        rw [hik] at hk
        obtain ⟨m, rfl, hx, hwf⟩ := DataW.trod_int hk h
        simp only [Prod.mk.injEq] at hx
        obtain ⟨rfl, rfl⟩ := hx
        have hwf' : k.min ≤ m ∧ m ≤ k.max := by simpa [Lit.wf] using hwf
        exact ⟨μ, K, s, ro, Mu.Le.refl _, List.prefix_refl _, [.int k m], by simp [VRs, VR], by simp [V.one], .int hT hik hwf'.1 hwf'.2⟩
      · rename_i hik
        rw [hik] at hk
        obtain ⟨b, rfl, hx, hb⟩ := DataW.trod_string hk h
        simp only [Prod.mk.injEq] at hx
        obtain ⟨rfl, rfl⟩ := hx
        refine ⟨μ, K, s, ro, Mu.Le.refl _, List.prefix_refl _, [.str b], by simp [VRs, VR], by simp [V.one], .str hT hik ?_⟩
        have := hw b.size (by simp [DataW.weights])
        exact this
      · rename_i e hik
        rw [hik] at hk
        simp only [Bool.and_eq_true] at hr
        obtain ⟨hr1, hr2⟩ := hr
        rcases DataW.trod_slice hk h with ⟨rfl, hx⟩ | ⟨a, len, cap, elems, rest, n', hn', rfl, hx, _, hlc, hcm, hlen, hel, hre, _⟩
        · simp only [Prod.mk.injEq] at hx
          obtain ⟨rfl, rfl⟩ := hx
          exact ⟨μ, K, s, ro, Mu.Le.refl _, List.prefix_refl _, [.nils], by simp [VRs, VR], by simp [V.one], .nils hT hik⟩
        · obtain rfl : fuel = n' := by omega
          simp only [Prod.mk.injEq] at hx
          obtain ⟨rfl, rfl⟩ := hx
          obtain ⟨hrl, hre⟩ := hre rfl
          split at hr2
          case h_2 => cases hr2
          rename_i ie hE
          simp only [decide_eq_true_eq] at hr2
          obtain ⟨q, z, hq, q1, q2, _⟩ := (fit e ie hE).info
          have hcells : P.cellsOf e = ie.size := by simp [Program.cellsOf, hq, q1]
          have hbytes : P.bytesOf e = ie.bytes := by simp [Program.bytesOf, hq, q2]
          have hwt : ∀ m ∈ ((elems.map (·.1)).length + (rest.map (·.1)).length) * P.bytesOf e :: (DataW.weightsAll P e (elems.map (·.1)) ++ DataW.weightsAll P e (rest.map (·.1))), m ≤ reachBytes := by
            have : P.underlying t = some (.slice e) := hk
            simpa [DataW.weights, this] using hw
          have hall : ∀ j, j < cap → (w.cells? 0 (a.add (j * ie.size)) ie.size).bind (DataW.trod enc P w 0 (fun _ => true) true fuel e) = (elems ++ rest)[j]? := fun j hj => by
            by_cases hjl : j < len
            · rw [List.getElem?_append_left (by omega), ← hcells]; exact hel j hjl
            · rw [List.getElem?_append_right (by omega), hlen, ← hcells]
              have := hre (j - len) (by omega)
              rwa [show len + (j - len) = j by omega] at this
          have hcap : (elems ++ rest).length = cap := by simp; omega
          -- the elements' cells
          obtain ⟨wss, hwl, hws⟩ : ∃ wss : List (List Value), wss.length = cap ∧ ∀ j ws, wss[j]? = some ws → w.cells? 0 (a.add (j * ie.size)) ie.size = some ws ∧ ∃ x, (elems ++ rest)[j]? = some x ∧ DataW.trod enc P w 0 (fun _ => true) true fuel e ws = some x := by
            refine ⟨(List.range cap).map fun j => (w.cells? 0 (a.add (j * ie.size)) ie.size).getD [], by simp, fun j ws hj => ?_⟩
            have hjc : j < cap := by have := (List.getElem?_eq_some_iff.1 hj).1; simpa using this
            simp [hjc] at hj
            have := hall j hjc
            cases hc : w.cells? 0 (a.add (j * ie.size)) ie.size with
            | none => rw [hc] at this; simp at this; omega
            | some cs' =>
              rw [hc] at hj this
              simp at hj this
              subst hj
              refine ⟨rfl, (elems ++ rest)[j]'(by omega), by simp [hcap, hjc], ?_⟩
              rw [this]; simp [hcap, hjc]
          have hin : ∀ x ∈ List.zipWith (fun ws (y : DataW D × List MemPlace) => (e, ws, y.1)) wss (elems ++ rest), ∀ μ K, Sim μ K w → Ro K → ∃ μ' K', Sees T w μ K x.1 x.2.1 x.2.2 μ' K' := by
            intro x hx μ K s ro
            obtain ⟨j, hj⟩ := List.mem_iff_getElem?.1 hx
            rw [List.getElem?_zipWith] at hj
            cases hwj : wss[j]? with
            | none => rw [hwj] at hj; simp at hj
            | some ws =>
              obtain ⟨_, y, hy, ht⟩ := hws j ws hwj
              rw [hwj, hy] at hj
              simp at hj
              subst hj
              refine ih n e ws y.1 y.2 hr1 ht (fun m hm => hwt m ?_) μ K s ro
              simp only [List.mem_cons, List.mem_append]
              right
              by_cases hjl : j < elems.length
              · rw [List.getElem?_append_left hjl] at hy
                exact .inl (weightsAll_mem (j := j) (by simp [hy]) hm)
              · rw [List.getElem?_append_right (by omega)] at hy
                exact .inr (weightsAll_mem (j := j - elems.length) (by simp [hy]) hm)
          obtain ⟨μ', K', vss, s', ro', hle, hpre, hvl, hv⟩ := sees_all _ hin μ K s ro
          have hzl : (List.zipWith (fun ws (y : DataW D × List MemPlace) => (e, ws, y.1)) wss (elems ++ rest)).length = cap := by simp [hwl]; omega
          rw [hzl] at hvl
          have hget : ∀ (j : Nat) vs, vss[j]? = some vs → ∃ ws y, wss[j]? = some ws ∧ (elems ++ rest)[j]? = some y ∧ VRs μ' vs ws ∧ (∀ v ∈ vs, v.one = true) ∧ Rd T K' e vs y.1 ∧ vs.length = ie.size ∧ w.cells? 0 (a.add (j * ie.size)) ie.size = some ws := fun j vs hj => by
            have hjc : j < cap := by rw [← hvl]; exact (List.getElem?_eq_some_iff.1 hj).1
            have hwj : wss[j]? = some (wss[j]'(by omega)) := by simp [hwl, hjc]
            obtain ⟨hc, y, hy, _⟩ := hws j _ hwj
            have hz : (List.zipWith (fun ws (y : DataW D × List MemPlace) => (e, ws, y.1)) wss (elems ++ rest))[j]? = some (e, wss[j]'(by omega), y.1) := by rw [List.getElem?_zipWith, hwj, hy]
            obtain ⟨a1, a2, a3⟩ := hv j _ vs hz hj
            refine ⟨_, y, hwj, hy, a1, a2, a3, ?_, hc⟩
            have := a1.length
            have := (cells_at hc).1
            simp only at *
            omega
          have hvsz : ∀ x ∈ vss, x.length = ie.size := fun x hx => by
            obtain ⟨j, hj⟩ := List.mem_iff_getElem?.1 hx
            obtain ⟨_, _, _, _, _, _, _, h8, _⟩ := hget j x hj
            exact h8
          have hwsz : ∀ x ∈ wss, x.length = ie.size := fun x hx => by
            obtain ⟨j, hj⟩ := List.mem_iff_getElem?.1 hx
            exact (cells_at (hws j x hj).1).1
          have hfl : vss.flatten.length = cap * ie.size := by rw [flatten_length hvsz, hvl]
          have hwfl : wss.flatten.length = cap * ie.size := by rw [flatten_length hwsz, hwl]
          have hflat : VRs μ' vss.flatten wss.flatten := VRs.flatten (by omega) fun j vs ws hj hwj => by
            obtain ⟨ws', _, h1, _, h3, _⟩ := hget j vs hj
            rw [hwj] at h1
            obtain rfl := Option.some.inj h1
            exact h3
          have hone : ∀ v ∈ vss.flatten, v.one = true := fun v hv' => by
            obtain ⟨l, hl, hvl'⟩ := List.mem_flatten.1 hv'
            obtain ⟨j, hj⟩ := List.mem_iff_getElem?.1 hl
            obtain ⟨_, _, _, _, _, h6, _⟩ := hget j l hj
            exact h6 v hvl'
          have hrd : ∀ (j : Nat) x, (elems.map (·.1) ++ rest.map (·.1))[j]? = some x → Rd T K' e ((vss.flatten.drop (j * ie.size)).take ie.size) x := fun j x hx => by
            rw [← List.map_append] at hx
            simp only [List.getElem?_map, Option.map_eq_some_iff] at hx
            obtain ⟨y, hy, rfl⟩ := hx
            have hjc : j < vss.length := by have := (List.getElem?_eq_some_iff.1 hy).1; omega
            have hj : vss[j]? = some vss[j] := by simp [hjc]
            obtain ⟨_, y', _, h2, _, _, h7, _⟩ := hget j _ hj
            rw [hy] at h2
            obtain rfl := Option.some.inj h2
            rw [flatten_part hvsz hj]
            exact h7
          have hfin : ∀ (K'' : Heap), K' <+: K'' → ∀ b, K''[b]? = some (.row vss.flatten false) → Rd T K'' t [.slc b 0 len cap true ie.size] (.slice (elems.map (·.1)) (rest.map (·.1))) := fun K'' hp b hb =>
            .slc hT hik hE (by simp [hlen]) (by simp; omega) (by
              have := hwt _ (List.mem_cons_self ..)
              rw [hbytes] at this
              simp only [List.length_map] at this
              have e : elems.length + rest.length = cap := by simpa using hcap
              rwa [e] at this) hb hfl (fun j x hx => (hrd j x hx).mono hp)
          by_cases hc0 : cap = 0
          · refine ⟨μ', K' ++ [.row vss.flatten false], ?_, ro'.snoc _, hle, hpre.trans (List.prefix_append ..), [.slc K'.length 0 len cap true ie.size], ?_, by simp [V.one], hfin _ (List.prefix_append ..) _ (by simp)⟩
            · have : vss.flatten = [] := by
                have : vss.flatten.length = 0 := by rw [hfl, hc0]; simp
                exact List.length_eq_zero_iff.1 this
              rw [this]
              exact sim_empty s' ro'
            · simp only [VRs, VR]
              exact ⟨_, [], rfl, ⟨a, cap, rfl, hlc, Nat.le_refl _, fun _ => rfl, .inl ⟨trivial, hc0⟩⟩, rfl⟩
          · -- where the row lies
            have hcell : ∀ i, i < cap * ie.size → ∃ cv, wss.flatten[i]? = some cv ∧ w.cell? (a.add i) = some cv := fun i hi => by
              have hj : i / ie.size < cap := (Nat.div_lt_iff_lt_mul hr2).2 hi
              have hwj : wss[i / ie.size]? = some (wss[i / ie.size]'(by omega)) := by simp [hwl, hj]
              have hc := (hws _ _ hwj).1
              obtain ⟨c1, c2⟩ := cells_at hc
              have hm : i % ie.size < ie.size := Nat.mod_lt _ hr2
              have hx : (wss[i / ie.size]'(by omega))[i % ie.size]? = some ((wss[i / ie.size]'(by omega))[i % ie.size]'(by omega)) := by simp [c1, hm]
              refine ⟨(wss[i / ie.size]'(by omega))[i % ie.size]'(by omega), ?_, ?_⟩
              rotate_left
              · have := c2 _ _ hx
                have e1 : (a.add (i / ie.size * ie.size)).add (i % ie.size) = a.add i := by
                  have key : i / ie.size * ie.size + i % ie.size = i := by rw [Nat.mul_comm]; exact Nat.div_add_mod i ie.size
                  rw [add_add, key]
                rw [e1] at this
                exact this
              · have hp := flatten_part hwsz hwj
                have key : i / ie.size * ie.size + i % ie.size = i := by rw [Nat.mul_comm]; exact Nat.div_add_mod i ie.size
                rw [← hx, ← hp, List.getElem?_take, if_pos hm, List.getElem?_drop, key]
            have hpos : 0 < cap * ie.size := Nat.mul_pos (by omega) hr2
            obtain ⟨c0, _, hc0'⟩ := hcell 0 hpos
            have spot : a.spot = none ∧ a.block < w.heap.size := by
              have := cell_plain hc0'
              unfold Addr.add at this
              simpa using this
            obtain ⟨B, o, sp⟩ := a
            simp only at spot
            obtain ⟨rfl, hB⟩ := spot
            refine ⟨μ'.put K'.length ⟨B, o, cap * ie.size⟩, K' ++ [.row vss.flatten false], ?_, ro'.snoc _, hle.trans (Mu.le_put _ s'.none_len), hpre.trans (List.prefix_append ..), [.slc K'.length 0 len cap true ie.size], ?_, by simp [V.one], hfin _ (List.prefix_append ..) _ (by simp)⟩
            · refine sim_seen s' ro' hB (by rw [hfl]; exact Nat.le_refl _) (fun i hi => ?_) (fun i v hi => ?_)
              · obtain ⟨cv, _, h2⟩ := hcell i hi
                rw [add_at] at h2
                exact ⟨cv, h2⟩
              · have hil : i < cap * ie.size := by rw [← hfl]; exact (List.getElem?_eq_some_iff.1 hi).1
                obtain ⟨cv, h1, h2⟩ := hcell i hil
                rw [add_at] at h2
                obtain ⟨cv', h3, h4⟩ := hflat.get hi
                rw [h1] at h3
                obtain rfl := Option.some.inj h3
                exact ⟨hone v (List.mem_of_getElem? hi), cv, h2, h4⟩
            · simp only [VRs, VR]
              exact ⟨_, [], rfl, ⟨_, cap, rfl, hlc, Nat.le_refl _, fun _ => rfl, .inr ⟨_, 0, Mu.put_same _ _ _, rfl, by simp, fun _ => rfl⟩⟩, rfl⟩
      · rename_i fs hik
        rw [hik] at hk
        obtain ⟨F, places, hu, hF, _⟩ := hk
        simp only [Bool.and_eq_true, List.all_eq_true] at hr
        obtain ⟨hr1, hr2⟩ := hr
        have hr2 : tiles T 0 fs = some i.size := by simpa using hr2
        obtain ⟨xs, n', hn', hx, hcl, hxl, hxf⟩ := DataW.trod_struct hu h
        obtain rfl : fuel = n' := by omega
        simp only [Prod.mk.injEq] at hx
        obtain ⟨rfl, rfl⟩ := hx
        have hcells : P.cellsOf t = i.size := by
          obtain ⟨q, z, hq, q1, _⟩ := hf.info
          simp [Program.cellsOf, hq, q1]
        have hsz : ∀ {u : Nat} {ui : TI}, T u = some ui → P.cellsOf u = ui.size := fun hu => by
          obtain ⟨q, z, hq, q1, _⟩ := (fit _ _ hu).info
          simp [Program.cellsOf, hq, q1]
        have hfl : fs.length = F.size := by rw [← hF]; simp
        have hfget : ∀ (j : Nat) f, fs[j]? = some f → ∃ g, F[j]? = some g ∧ f = (g.type, g.offset) := fun j f hj => by
          rw [← hF] at hj
          simp only [List.getElem?_map, Array.getElem?_toList, Option.map_eq_some_iff] at hj
          obtain ⟨g, hg, rfl⟩ := hj
          exact ⟨g, hg, rfl⟩
        have hTf : ∀ (j : Nat) f, fs[j]? = some f → ∃ fi, T f.1 = some fi := fun j f hj => by
          have := hr1 f (List.mem_of_getElem? hj)
          cases n with
          | zero => cases this
          | succ n =>
            unfold readable at this
            split at this
            · rename_i fi hfi; exact ⟨fi, hfi⟩
            · cases this
        have hin : ∀ x ∈ List.zipWith (fun (f : Nat × Nat) (y : DataW D × List MemPlace) => (f.1, (cs.drop f.2).take (P.cellsOf f.1), y.1)) fs xs, ∀ μ K, Sim μ K w → Ro K → ∃ μ' K', Sees T w μ K x.1 x.2.1 x.2.2 μ' K' := by
          intro x hx μ K s ro
          obtain ⟨j, hj⟩ := List.mem_iff_getElem?.1 hx
          rw [List.getElem?_zipWith] at hj
          cases hfj : fs[j]? with
          | none => rw [hfj] at hj; simp at hj
          | some f =>
            cases hxj : xs[j]? with
            | none => rw [hfj, hxj] at hj; simp at hj
            | some y =>
              rw [hfj, hxj] at hj
              simp at hj
              subst hj
              obtain ⟨g, hg, rfl⟩ := hfget j f hfj
              have ht := hxf j g hg
              rw [hxj] at ht
              refine ih n g.type _ y.1 y.2 (hr1 _ (List.mem_of_getElem? hfj)) ht (fun m hm => hw m ?_) μ K s ro
              simp only [DataW.weights, hu]
              exact DataW.weights_mem_each (j := j) (by simp [hg]) (by simp [hxj]) m hm
        obtain ⟨μ', K', vss, s', ro', hle, hpre, hvl, hv⟩ := sees_all _ hin μ K s ro
        have hzl : (List.zipWith (fun (f : Nat × Nat) (y : DataW D × List MemPlace) => (f.1, (cs.drop f.2).take (P.cellsOf f.1), y.1)) fs xs).length = fs.length := by simp; omega
        rw [hzl] at hvl
        have hget : ∀ (j : Nat) f fi vs, fs[j]? = some f → T f.1 = some fi → vss[j]? = some vs → ∃ y, xs[j]? = some y ∧ VRs μ' vs ((cs.drop f.2).take fi.size) ∧ (∀ v ∈ vs, v.one = true) ∧ Rd T K' f.1 vs y.1 ∧ vs.length = fi.size := fun j f fi vs hfj hfi hj => by
          have hjl : j < fs.length := (List.getElem?_eq_some_iff.1 hfj).1
          have hxj : xs[j]? = some (xs[j]'(by omega)) := by simp
          have hz : (List.zipWith (fun (f : Nat × Nat) (y : DataW D × List MemPlace) => (f.1, (cs.drop f.2).take (P.cellsOf f.1), y.1)) fs xs)[j]? = some (f.1, (cs.drop f.2).take (P.cellsOf f.1), (xs[j]'(by omega)).1) := by rw [List.getElem?_zipWith, hfj, hxj]
          obtain ⟨a1, a2, a3⟩ := hv j _ vs hz hj
          rw [hsz hfi] at a1
          refine ⟨_, hxj, a1, a2, a3, ?_⟩
          have h1 := a1.length
          have h2 := tiles_in hr2 hfj hfi
          simp only [List.length_take, List.length_drop] at h1
          omega
        have hpl : ∀ (j : Nat) f fi vs, fs[j]? = some f → T f.1 = some fi → vss[j]? = some vs → vs.length = fi.size := fun j f fi vs h1 h2 h3 => by
          obtain ⟨_, _, _, _, _, h⟩ := hget j f fi vs h1 h2 h3; exact h
        have hwhole : (fs.map fun f => (cs.drop f.2).take (P.cellsOf f.1)).flatten = cs := by
          rw [tiles_flat (cs := cs) (l := fs.map fun f => (cs.drop f.2).take (P.cellsOf f.1)) hr2 (by omega) (by simp) (fun j f fi x hfj hfi hx => by
            simp only [List.getElem?_map, hfj, Option.map_some, Option.some.injEq] at hx
            rw [← hx, hsz hfi])]
          simp only [List.drop_zero, Nat.sub_zero]
          rw [List.take_of_length_le (by omega)]
        have hflat : VRs μ' vss.flatten cs := by
          rw [← hwhole]
          refine VRs.flatten (by simp [hvl]) fun j vs ws hj hwj => ?_
          simp only [List.getElem?_map, Option.map_eq_some_iff] at hwj
          obtain ⟨f, hfj, rfl⟩ := hwj
          obtain ⟨fi, hfi⟩ := hTf j f hfj
          obtain ⟨_, _, h, _⟩ := hget j f fi vs hfj hfi hj
          rw [hsz hfi]; exact h
        refine ⟨μ', K', s', ro', hle, hpre, vss.flatten, hflat, fun v hv' => ?_, .strct hT hik (by have := hflat.length; omega) (by simp; omega) fun j f fi x hfj hfi hx => ?_⟩
        · obtain ⟨l, hl, hvl'⟩ := List.mem_flatten.1 hv'
          obtain ⟨j, hj⟩ := List.mem_iff_getElem?.1 hl
          have hjl : j < fs.length := by rw [← hvl]; exact (List.getElem?_eq_some_iff.1 hj).1
          have hfj : fs[j]? = some fs[j] := by simp [hjl]
          obtain ⟨fi, hfi⟩ := hTf j _ hfj
          obtain ⟨_, _, _, h6, _⟩ := hget j _ fi l hfj hfi hj
          exact h6 v hvl'
        · simp only [List.getElem?_map, Option.map_eq_some_iff] at hx
          obtain ⟨y, hy, rfl⟩ := hx
          have hjl : j < fs.length := (List.getElem?_eq_some_iff.1 hfj).1
          have hj : vss[j]? = some (vss[j]'(by omega)) := by simp
          obtain ⟨y', h1, _, _, h4, _⟩ := hget j f fi _ hfj hfi hj
          rw [hy] at h1
          obtain rfl := Option.some.inj h1
          have := tiles_part hr2 hvl hpl hfj hfi hj
          rw [Nat.sub_zero] at this
          rw [this]; exact h4
      · cases hr
    · cases hr

end Go.Proofs.Ytjageapgbpdlhaa.VM
