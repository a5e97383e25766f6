/- Joined texts: VmO, VmP, VmW, VmX, VmY, Num, VmQ, Tab, NetA, NetB, NetC, IntA. -/
import Derived.Test.YtekifjeckbndiaaJM2
import Derived.SizedLaws
import Derived.ChangeArms
import Derived.JoinedCond
import Derived.JoinedOf
import Derived.Carry
import Derived.Below
import Derived.OpenShut
import Derived.ProofKit
import Derived.Laws.StructEq
import Derived.Test.YtekifjeckbndiaaRows
import Derived.KernelRfl
/- THE SMALL MACHINE, part O: what is handed in, as the small machine sees it. -/
namespace Go.Proofs.Ytekifjeckbndiaa.VM
open Go
set_option linter.unusedVariables false
set_option linter.unusedSimpArgs false

variable {P : Program} {T : Tab}

/-- what was handed in reads as d: its blocks are read only, and its numbers are of their kinds -/
inductive Rd (T : Tab) (K : Heap) {D : Type} : Nat → List V → DataW D → Prop
  | bool {t i b} (h : T t = some i) (hk : i.k = .bool) : Rd T K t [.bool b] (.lit (.bool b))
  | int {t i k n} (h : T t = some i) (hk : i.k = .int k) (lo : k.min ≤ n) (hi : n ≤ k.max) : Rd T K t [.int k n] (.lit (.int k n))
  | str {t i s} (h : T t = some i) (hk : i.k = .str) (hs : s.size ≤ reachBytes) : Rd T K t [.str s] (.lit (.string s.data.toList))
  | nils {t i e} (h : T t = some i) (hk : i.k = .slice e) : Rd T K t [.nils] .nil
  | slc {t i e ie b len cap cs elems spare} (h : T t = some i) (hk : i.k = .slice e) (he : T e = some ie) (hl : elems.length = len) (hc : elems.length + spare.length = cap) (hb : cap * ie.bytes ≤ reachBytes)
      (hr : K[b]? = some (.row cs false)) (hcs : cs.length = cap * ie.size) (hd : ∀ (j : Nat) x, (elems ++ spare)[j]? = some x → Rd T K e ((cs.drop (j * ie.size)).take ie.size) x) :
      Rd T K t [.slc b 0 len cap true ie.size] (.slice elems spare)
  | strct {t i fs cs parts} (h : T t = some i) (hk : i.k = .strct fs) (hl : cs.length = i.size) (hp : parts.length = fs.length)
      (hd : ∀ (j : Nat) f fi x, fs[j]? = some f → T f.1 = some fi → parts[j]? = some x → Rd T K f.1 ((cs.drop f.2).take fi.size) x) : Rd T K t cs (.agg parts)

theorem Rd.mono {D : Type} {K K' : Heap} (hp : K <+: K') {t : Nat} {cs : List V} {d : DataW D} (h : Rd T K t cs d) : Rd T K' t cs d := by
  induction h with
  | bool h hk => exact .bool h hk
  | int h hk lo hi => exact .int h hk lo hi
  | str h hk hs => exact .str h hk hs
  | nils h hk => exact .nils h hk
  | slc h hk he hl hc hb hr hcs _ ih =>
    refine .slc h hk he hl hc hb ?_ hcs ih
    obtain ⟨l, rfl⟩ := hp
    rw [List.getElem?_append_left (List.getElem?_eq_some_iff.1 hr).1]
    exact hr
  | strct h hk hl hp' _ ih => exact .strct h hk hl hp' ih

/-- no block of it may be written -/
def Ro (K : Heap) : Prop := ∀ (b : Nat) k, K[b]? = some k → k.own = false

theorem Ro.snoc {K : Heap} (h : Ro K) (cs : List V) : Ro (K ++ [.row cs false]) := fun b k hk => by
  rcases get_snoc hk with ⟨_, rfl⟩ | ⟨_, hk⟩
  · rfl
  · exact h b k hk

theorem sim_seen {μ : Mu} {K : Heap} {w : World} (s : Sim μ K w) (ro : Ro K) {y : Loc} {cs : List V} (hB : y.B < w.heap.size) (hl : cs.length ≤ y.n) (hext : ∀ i, i < y.n → ∃ u, w.cell? ⟨y.B, y.o + i, none⟩ = some u)
    (hcs : ∀ (i : Nat) v, cs[i]? = some v → v.one = true ∧ ∃ cv, w.cell? ⟨y.B, y.o + i, none⟩ = some cv ∧ VR μ v cv) : Sim (μ.put K.length y) (K ++ [.row cs false]) w := by
  have hle : Mu.Le μ (μ.put K.length y) := Mu.le_put _ s.none_len
  have split : ∀ b x, μ.put K.length y b = some x → (b = K.length ∧ x = y) ∨ (b ≠ K.length ∧ μ b = some x) := fun b x hx => by
    by_cases hb : b = K.length
    · subst hb; rw [Mu.put_same] at hx; exact .inl ⟨rfl, (Option.some.inj hx).symm⟩
    · rw [Mu.put_ne _ hb] at hx; exact .inr ⟨hb, hx⟩
  have rro := ro.snoc cs
  refine ⟨fun b x hx => ?_, fun b x ds wr hx hb i v hi => ?_, fun b x ds wr hx hb => ?_, fun b x ds hx hb i hi => ?_, fun b x k hx hb ho => ?_, fun b x es hx hb => ?_⟩
  · rcases split b x hx with ⟨rfl, rfl⟩ | ⟨_, hx⟩
    · exact ⟨by simp, hB⟩
    · have := s.lt b x hx; exact ⟨by simp; omega, this.2⟩
  · rcases split b x hx with ⟨rfl, rfl⟩ | ⟨hne, hx⟩
    · simp at hb
      obtain ⟨rfl, rfl⟩ := hb
      obtain ⟨h1, cv, h2, h3⟩ := hcs i v hi
      exact ⟨h1, cv, h2, h3.mono hle⟩
    · rcases get_snoc hb with ⟨e, _⟩ | ⟨_, hb⟩
      · exact absurd e hne
      · obtain ⟨h1, cv, h2, h3⟩ := s.row b x ds wr hx hb i v hi
        exact ⟨h1, cv, h2, h3.mono hle⟩
  · rcases split b x hx with ⟨rfl, rfl⟩ | ⟨hne, hx⟩
    · simp at hb
      obtain ⟨rfl, rfl⟩ := hb
      exact ⟨hl, hext⟩
    · rcases get_snoc hb with ⟨e, _⟩ | ⟨_, hb⟩
      · exact absurd e hne
      · exact s.ext b x ds wr hx hb
  · have := rro b _ hb; simp [Blk.own] at this
  · have := rro b _ hb; rw [this] at ho; cases ho
  · have := rro b _ hb; simp [Blk.own] at this

theorem sim_empty {μ : Mu} {K : Heap} {w : World} (s : Sim μ K w) (ro : Ro K) : Sim μ (K ++ [.row [] false]) w := by
  have rro := ro.snoc []
  have back : ∀ {b x k}, μ b = some x → (K ++ [.row [] false])[b]? = some k → K[b]? = some k := fun {b x k} hx hb => by
    rcases get_snoc hb with ⟨rfl, _⟩ | ⟨_, hb⟩
    · rw [s.none_len] at hx; cases hx
    · exact hb
  refine ⟨fun b x hx => ?_, fun b x ds wr hx hb => s.row b x ds wr hx (back hx hb), fun b x ds wr hx hb => s.ext b x ds wr hx (back hx hb), fun b x ds hx hb => s.free b x ds hx (back hx hb), fun b x k hx hb ho => ?_, fun b x es hx hb => s.mp b x es hx (back hx hb)⟩
  · have := s.lt b x hx; exact ⟨by simp; omega, this.2⟩
  · have := rro b _ hb; rw [this] at ho; cases ho

theorem mapM_some {α β : Type} {f : α → Option β} : ∀ {l : List α} {ys : List β}, l.mapM f = some ys → ys.length = l.length ∧ ∀ (i : Nat) x, l[i]? = some x → ∃ y, ys[i]? = some y ∧ f x = some y
  | [], ys, h => by simp at h; subst h; simp
  | a :: l, ys, h => by
    rw [List.mapM_cons] at h
    cases hf : f a with
    | none => rw [hf] at h; simp at h
    | some y =>
      rw [hf] at h
      cases hl : l.mapM f with
      | none => rw [hl] at h; simp at h
      | some zs =>
        rw [hl] at h
        simp at h
        subst h
        obtain ⟨h1, h2⟩ := mapM_some hl
        refine ⟨by simp [h1], fun i x hx => ?_⟩
        cases i with
        | zero => simp at hx; subst hx; exact ⟨y, by simp, hf⟩
        | succ i => simpa using h2 i x (by simpa using hx)

/-- fields that lie one behind the other -/
def tiles (T : Tab) : Nat → List (Nat × Nat) → Option Nat
  | o, [] => some o
  | o, (t, off) :: fs => match T t with
    | some i => if off = o then tiles T (o + i.size) fs else none
    | none => none

/-- a type that may be handed in -/
def readable (T : Tab) : Nat → Nat → Bool
  | 0, _ => false
  | n + 1, t => match T t with
    | some i => match i.k with
      | .bool | .int _ | .str => true
      | .slice e => readable T n e && (match T e with | some ie => decide (0 < ie.size) | none => false)
      | .strct fs => fs.all (fun f => readable T n f.1) && tiles T 0 fs == some i.size
      | _ => false
    | none => false

/-- what one reading gives -/
def Sees (T : Tab) (w : World) {D : Type} (μ : Mu) (K : Heap) (t : Nat) (cs : List Value) (d : DataW D) (μ' : Mu) (K' : Heap) : Prop :=
  Sim μ' K' w ∧ Ro K' ∧ Mu.Le μ μ' ∧ K <+: K' ∧ ∃ vs, VRs μ' vs cs ∧ (∀ v ∈ vs, v.one = true) ∧ Rd T K' t vs d

/-- readings one behind the other -/
theorem sees_all {D : Type} {w : World} : ∀ (L : List (Nat × List Value × DataW D)), (∀ x ∈ L, ∀ μ K, Sim μ K w → Ro K → ∃ μ' K', Sees T w μ K x.1 x.2.1 x.2.2 μ' K') → ∀ μ K, Sim μ K w → Ro K →
    ∃ (μ' : Mu) (K' : Heap) (vss : List (List V)), Sim μ' K' w ∧ Ro K' ∧ Mu.Le μ μ' ∧ K <+: K' ∧ vss.length = L.length ∧ ∀ (j : Nat) x vs, L[j]? = some x → vss[j]? = some vs → VRs μ' vs x.2.1 ∧ (∀ v ∈ vs, v.one = true) ∧ Rd T K' x.1 vs x.2.2
  | [], _, μ, K, s, ro => ⟨μ, K, [], s, ro, Mu.Le.refl _, List.prefix_refl _, rfl, by simp⟩
  | x :: L, h, μ, K, s, ro => by
    obtain ⟨μ1, K1, s1, r1, l1, p1, vs, v1, v2, v3⟩ := h x (by simp) μ K s ro
    obtain ⟨μ2, K2, vss, s2, r2, l2, p2, g1, g2⟩ := sees_all L (fun y hy => h y (by simp [hy])) μ1 K1 s1 r1
    refine ⟨μ2, K2, vs :: vss, s2, r2, l1.trans l2, p1.trans p2, by simp [g1], fun j y us hy hu => ?_⟩
    cases j with
    | zero =>
      simp at hy hu
      subst hy; subst hu
      exact ⟨v1.mono l2, v2, v3.mono p2⟩
    | succ j => exact g2 j y us (by simpa using hy) (by simpa using hu)

theorem VRs.flatten {μ : Mu} : ∀ {vss : List (List V)} {wss : List (List Value)}, vss.length = wss.length → (∀ (j : Nat) vs ws, vss[j]? = some vs → wss[j]? = some ws → VRs μ vs ws) → VRs μ vss.flatten wss.flatten
  | [], [], _, _ => by simp [VRs]
  | vs :: vss, ws :: wss, hl, h => by
    simp only [List.flatten_cons]
    exact (h 0 vs ws rfl rfl).append (VRs.flatten (by simpa using hl) fun j a b ha hb => h (j + 1) a b (by simpa using ha) (by simpa using hb))
  | [], _ :: _, hl, _ => by simp at hl
  | _ :: _, [], hl, _ => by simp at hl

theorem flatten_length {α : Type} {n : Nat} : ∀ {l : List (List α)}, (∀ x ∈ l, x.length = n) → l.flatten.length = l.length * n
  | [], _ => by simp
  | x :: l, h => by
    simp only [List.flatten_cons, List.length_append, List.length_cons, h x (by simp), flatten_length (l := l) fun y hy => h y (by simp [hy])]
    rw [Nat.add_mul]; omega

theorem flatten_part {α : Type} {n : Nat} : ∀ {l : List (List α)}, (∀ x ∈ l, x.length = n) → ∀ {j : Nat} {x : List α}, l[j]? = some x → (l.flatten.drop (j * n)).take n = x
  | [], _, _, _, h => by simp at h
  | y :: l, h, 0, x, hx => by
    simp at hx; subst hx
    have := h y (by simp)
    simp only [List.flatten_cons, Nat.zero_mul, List.drop_zero]
    rw [List.take_append_of_le_length (by omega), List.take_of_length_le (by omega)]
  | y :: l, h, j + 1, x, hx => by
    have hy := h y (by simp)
    simp only [List.flatten_cons]
    rw [show (j + 1) * n = y.length + j * n by rw [hy, Nat.add_mul]; omega, ← List.drop_drop, List.drop_left]
    exact flatten_part (l := l) (fun z hz => h z (by simp [hz])) (by simpa using hx)

theorem tiles_le : ∀ {fs : List (Nat × Nat)} {o e : Nat}, tiles T o fs = some e → o ≤ e
  | [], o, e, h => by simp only [tiles, Option.some.injEq] at h; omega
  | (t, off) :: fs, o, e, h => by
    simp only [tiles] at h
    split at h
    · split at h
      · have := tiles_le h; omega
      · cases h
    · cases h

theorem tiles_in : ∀ {fs : List (Nat × Nat)} {o e : Nat}, tiles T o fs = some e → ∀ {j : Nat} {f : Nat × Nat} {i : TI}, fs[j]? = some f → T f.1 = some i → o ≤ f.2 ∧ f.2 + i.size ≤ e
  | [], o, e, _, j, f, i, hf, _ => by simp at hf
  | (t, off) :: fs, o, e, h, j, f, i, hf, hi => by
    simp only [tiles] at h
    split at h
    · rename_i i0 hi0
      split at h
      · rename_i ho
        cases j with
        | zero =>
          simp at hf; subst hf
          obtain rfl : i = i0 := Option.some.inj (hi.symm.trans hi0)
          have := tiles_le h
          simp only; omega
        | succ j =>
          have := tiles_in h (by simpa using hf) hi
          omega
      · cases h
    · cases h

theorem tiles_flat {α : Type} {cs : List α} : ∀ {fs : List (Nat × Nat)} {o e : Nat} {l : List (List α)}, tiles T o fs = some e → e ≤ cs.length → l.length = fs.length →
    (∀ (j : Nat) f i x, fs[j]? = some f → T f.1 = some i → l[j]? = some x → x = (cs.drop f.2).take i.size) → l.flatten = (cs.drop o).take (e - o)
  | [], o, e, l, h, _, hl, _ => by
    simp only [tiles, Option.some.injEq] at h
    subst h
    have : l = [] := by simpa using hl
    subst this; simp
  | (t, off) :: fs, o, e, [], h, _, hl, _ => by simp at hl
  | (t, off) :: fs, o, e, x :: l, h, he, hl, hx => by
    simp only [tiles] at h
    split at h
    · rename_i i hi
      split at h
      · rename_i ho
        subst ho
        have hle := tiles_le h
        have h0 := hx 0 _ i x rfl hi rfl
        have ih := tiles_flat (cs := cs) (l := l) h he (by simpa using hl) fun j f i' y hf hi' hy => hx (j + 1) f i' y (by simpa using hf) hi' (by simpa using hy)
        simp only at h0
        rw [List.flatten_cons, ih, h0]
        have e2 : e - off = i.size + (e - (off + i.size)) := by omega
        rw [e2, List.take_add, List.drop_drop]
      · cases h
    · cases h

theorem tiles_part {α : Type} : ∀ {fs : List (Nat × Nat)} {o e : Nat} {l : List (List α)}, tiles T o fs = some e → l.length = fs.length →
    (∀ (j : Nat) f i x, fs[j]? = some f → T f.1 = some i → l[j]? = some x → x.length = i.size) → ∀ {j : Nat} {f : Nat × Nat} {i : TI} {x : List α}, fs[j]? = some f → T f.1 = some i → l[j]? = some x → (l.flatten.drop (f.2 - o)).take i.size = x
  | [], _, _, _, _, _, _, _, _, _, _, hf, _, _ => by simp at hf
  | (t, off) :: fs, o, e, [], _, hl, _, _, _, _, _, _, _, _ => by simp at hl
  | (t, off) :: fs, o, e, y :: l, h, hl, hx, j, f, i, x, hf, hi, hj => by
    simp only [tiles] at h
    split at h
    · rename_i i0 hi0
      split at h
      · rename_i ho
        subst ho
        have hy := hx 0 _ i0 y rfl hi0 rfl
        cases j with
        | zero =>
          simp at hf hj
          subst hf; subst hj
          obtain rfl : i = i0 := Option.some.inj (hi.symm.trans hi0)
          simp only [Nat.sub_self, List.drop_zero, List.flatten_cons]
          rw [List.take_append_of_le_length (by omega), List.take_of_length_le (by omega)]
        | succ j =>
          have hin := tiles_in h (by simpa using hf) hi
          have ih := tiles_part (l := l) h (by simpa using hl) (fun j f i' y hf hi' hy => hx (j + 1) f i' y (by simpa using hf) hi' (by simpa using hy)) (by simpa using hf) hi (by simpa using hj)
          rw [List.flatten_cons, show f.2 - off = y.length + (f.2 - (off + i0.size)) by omega, ← List.drop_drop, List.drop_left]
          exact ih
      · cases h
    · cases h

theorem weightsAll_mem {D : Type} {e : TypeId} {m : Nat} : ∀ {l : List (DataW D)} {j : Nat} {d : DataW D}, l[j]? = some d → m ∈ d.weights P e → m ∈ DataW.weightsAll P e l
  | [], _, _, h, _ => by simp at h
  | x :: l, 0, d, h, hm => by simp at h; subst h; simp only [DataW.weightsAll, List.mem_append]; exact .inl hm
  | x :: l, j + 1, d, h, hm => by simp only [DataW.weightsAll, List.mem_append]; exact .inr (weightsAll_mem (by simpa using h) hm)

theorem cells_at {w : World} {a : Addr} {n : Nat} {cs : List Value} (h : w.cells? 0 a n = some cs) : cs.length = n ∧ ∀ (i : Nat) v, cs[i]? = some v → w.cell? (a.add i) = some v := by
  unfold World.cells? at h
  simp only [Nat.zero_le, if_true] at h
  obtain ⟨h1, h2⟩ := mapM_some h
  simp only [List.length_range] at h1
  refine ⟨h1, fun i v hv => ?_⟩
  have hi : i < n := by rw [← h1]; exact (List.getElem?_eq_some_iff.1 hv).1
  obtain ⟨y, hy, hc⟩ := h2 i i (by simp [hi])
  rw [hv] at hy
  obtain rfl := Option.some.inj hy
  exact hc

theorem cell_plain {w : World} {a : Addr} {v : Value} (h : w.cell? a = some v) : a.spot = none ∧ a.block < w.heap.size := by
  unfold World.cell? at h
  split at h
  · rename_i hb
    split at h
    · cases h
    · rename_i hs
      exact ⟨by simpa using hs, (Array.getElem?_eq_some_iff.1 hb).1⟩
  · cases h

theorem add_add (a : Addr) (m n : Nat) : (a.add m).add n = a.add (m + n) := by
  unfold Addr.add
  by_cases hm : m = 0
  · subst hm; simp
  · by_cases hn : n = 0
    · subst hn; simp [hm]
    · rw [if_neg hm, if_neg hn, if_neg (by omega)]; simp [Nat.add_assoc]

/-- WHAT IS HANDED IN, IN THE SMALL MACHINE's MEMORY -/
theorem trod_sees (fit : Fits P T) {D : Type} {enc : TypeId × Value → D} {w : World} : ∀ (fuel n : Nat) (t : Nat) (cs : List Value) (d : DataW D) (ps : List MemPlace), readable T n t = true → DataW.trod enc P w 0 (fun _ => true) true fuel t cs = some (d, ps) →
    (∀ m ∈ d.weights P t, m ≤ reachBytes) → ∀ (μ : Mu) (K : Heap), Sim μ K w → Ro K → ∃ μ' K', Sees T w μ K t cs d μ' K' := by
  intro fuel
  induction fuel with
  | zero => intro n t cs d ps _ h; simp [DataW.trod] at h
  | succ fuel ih =>
    intro n t cs d ps hr h hw μ K s ro
    cases n with
    | zero => cases hr
    | succ n =>
    unfold readable at hr
    split at hr
    · rename_i i hT
      have hf := fit t i hT
      have hk := hf.kind
      split at hr
      · rename_i hik
        rw [hik] at hk
        obtain ⟨b, rfl, hx⟩ := DataW.trod_bool hk h
        simp only [Prod.mk.injEq] at hx
        obtain ⟨rfl, rfl⟩ := hx
        exact ⟨μ, K, s, ro, Mu.Le.refl _, List.prefix_refl _, [.bool b], by simp [VRs, VR], by simp [V.one], .bool hT hik⟩
      · rename_i k hik
        rw [hik] at hk
        obtain ⟨m, rfl, hx, hwf⟩ := DataW.trod_int hk h
        simp only [Prod.mk.injEq] at hx
        obtain ⟨rfl, rfl⟩ := hx
        have hwf' : k.min ≤ m ∧ m ≤ k.max := by simpa [Lit.wf] using hwf
        exact ⟨μ, K, s, ro, Mu.Le.refl _, List.prefix_refl _, [.int k m], by simp [VRs, VR], by simp [V.one], .int hT hik hwf'.1 hwf'.2⟩
      · rename_i hik
        rw [hik] at hk
        obtain ⟨b, rfl, hx, hb⟩ := DataW.trod_string hk h
        simp only [Prod.mk.injEq] at hx
        obtain ⟨rfl, rfl⟩ := hx
        refine ⟨μ, K, s, ro, Mu.Le.refl _, List.prefix_refl _, [.str b], by simp [VRs, VR], by simp [V.one], .str hT hik ?_⟩
        have := hw b.size (by simp [DataW.weights])
        exact this
      · rename_i e hik
        rw [hik] at hk
        simp only [Bool.and_eq_true] at hr
        obtain ⟨hr1, hr2⟩ := hr
        rcases DataW.trod_slice hk h with ⟨rfl, hx⟩ | ⟨a, len, cap, elems, rest, n', hn', rfl, hx, _, hlc, hcm, hlen, hel, hre, _⟩
        · simp only [Prod.mk.injEq] at hx
          obtain ⟨rfl, rfl⟩ := hx
          exact ⟨μ, K, s, ro, Mu.Le.refl _, List.prefix_refl _, [.nils], by simp [VRs, VR], by simp [V.one], .nils hT hik⟩
        · obtain rfl : fuel = n' := by omega
          simp only [Prod.mk.injEq] at hx
          obtain ⟨rfl, rfl⟩ := hx
          obtain ⟨hrl, hre⟩ := hre rfl
          split at hr2
          case h_2 => cases hr2
          rename_i ie hE
          simp only [decide_eq_true_eq] at hr2
          obtain ⟨q, z, hq, q1, q2, _⟩ := (fit e ie hE).info
          have hcells : P.cellsOf e = ie.size := by simp [Program.cellsOf, hq, q1]
          have hbytes : P.bytesOf e = ie.bytes := by simp [Program.bytesOf, hq, q2]
          have hwt : ∀ m ∈ ((elems.map (·.1)).length + (rest.map (·.1)).length) * P.bytesOf e :: (DataW.weightsAll P e (elems.map (·.1)) ++ DataW.weightsAll P e (rest.map (·.1))), m ≤ reachBytes := by
            have : P.underlying t = some (.slice e) := hk
            simpa [DataW.weights, this] using hw
          have hall : ∀ j, j < cap → (w.cells? 0 (a.add (j * ie.size)) ie.size).bind (DataW.trod enc P w 0 (fun _ => true) true fuel e) = (elems ++ rest)[j]? := fun j hj => by
            by_cases hjl : j < len
            · rw [List.getElem?_append_left (by omega), ← hcells]; exact hel j hjl
            · rw [List.getElem?_append_right (by omega), hlen, ← hcells]
              have := hre (j - len) (by omega)
              rwa [show len + (j - len) = j by omega] at this
          have hcap : (elems ++ rest).length = cap := by simp; omega
          -- the elements' cells
          obtain ⟨wss, hwl, hws⟩ : ∃ wss : List (List Value), wss.length = cap ∧ ∀ j ws, wss[j]? = some ws → w.cells? 0 (a.add (j * ie.size)) ie.size = some ws ∧ ∃ x, (elems ++ rest)[j]? = some x ∧ DataW.trod enc P w 0 (fun _ => true) true fuel e ws = some x := by
            refine ⟨(List.range cap).map fun j => (w.cells? 0 (a.add (j * ie.size)) ie.size).getD [], by simp, fun j ws hj => ?_⟩
            have hjc : j < cap := by have := (List.getElem?_eq_some_iff.1 hj).1; simpa using this
            simp [hjc] at hj
            have := hall j hjc
            cases hc : w.cells? 0 (a.add (j * ie.size)) ie.size with
            | none => rw [hc] at this; simp at this; omega
            | some cs' =>
              rw [hc] at hj this
              simp at hj this
              subst hj
              refine ⟨rfl, (elems ++ rest)[j]'(by omega), by simp [hcap, hjc], ?_⟩
              rw [this]; simp [hcap, hjc]
          have hin : ∀ x ∈ List.zipWith (fun ws (y : DataW D × List MemPlace) => (e, ws, y.1)) wss (elems ++ rest), ∀ μ K, Sim μ K w → Ro K → ∃ μ' K', Sees T w μ K x.1 x.2.1 x.2.2 μ' K' := by
            intro x hx μ K s ro
            obtain ⟨j, hj⟩ := List.mem_iff_getElem?.1 hx
            rw [List.getElem?_zipWith] at hj
            cases hwj : wss[j]? with
            | none => rw [hwj] at hj; simp at hj
            | some ws =>
              obtain ⟨_, y, hy, ht⟩ := hws j ws hwj
              rw [hwj, hy] at hj
              simp at hj
              subst hj
              refine ih n e ws y.1 y.2 hr1 ht (fun m hm => hwt m ?_) μ K s ro
              simp only [List.mem_cons, List.mem_append]
              right
              by_cases hjl : j < elems.length
              · rw [List.getElem?_append_left hjl] at hy
                exact .inl (weightsAll_mem (j := j) (by simp [hy]) hm)
              · rw [List.getElem?_append_right (by omega)] at hy
                exact .inr (weightsAll_mem (j := j - elems.length) (by simp [hy]) hm)
          obtain ⟨μ', K', vss, s', ro', hle, hpre, hvl, hv⟩ := sees_all _ hin μ K s ro
          have hzl : (List.zipWith (fun ws (y : DataW D × List MemPlace) => (e, ws, y.1)) wss (elems ++ rest)).length = cap := by simp [hwl]; omega
          rw [hzl] at hvl
          have hget : ∀ (j : Nat) vs, vss[j]? = some vs → ∃ ws y, wss[j]? = some ws ∧ (elems ++ rest)[j]? = some y ∧ VRs μ' vs ws ∧ (∀ v ∈ vs, v.one = true) ∧ Rd T K' e vs y.1 ∧ vs.length = ie.size ∧ w.cells? 0 (a.add (j * ie.size)) ie.size = some ws := fun j vs hj => by
            have hjc : j < cap := by rw [← hvl]; exact (List.getElem?_eq_some_iff.1 hj).1
            have hwj : wss[j]? = some (wss[j]'(by omega)) := by simp [hwl, hjc]
            obtain ⟨hc, y, hy, _⟩ := hws j _ hwj
            have hz : (List.zipWith (fun ws (y : DataW D × List MemPlace) => (e, ws, y.1)) wss (elems ++ rest))[j]? = some (e, wss[j]'(by omega), y.1) := by rw [List.getElem?_zipWith, hwj, hy]
            obtain ⟨a1, a2, a3⟩ := hv j _ vs hz hj
            refine ⟨_, y, hwj, hy, a1, a2, a3, ?_, hc⟩
            have := a1.length
            have := (cells_at hc).1
            simp only at *
            omega
          have hvsz : ∀ x ∈ vss, x.length = ie.size := fun x hx => by
            obtain ⟨j, hj⟩ := List.mem_iff_getElem?.1 hx
            obtain ⟨_, _, _, _, _, _, _, h8, _⟩ := hget j x hj
            exact h8
          have hwsz : ∀ x ∈ wss, x.length = ie.size := fun x hx => by
            obtain ⟨j, hj⟩ := List.mem_iff_getElem?.1 hx
            exact (cells_at (hws j x hj).1).1
          have hfl : vss.flatten.length = cap * ie.size := by rw [flatten_length hvsz, hvl]
          have hwfl : wss.flatten.length = cap * ie.size := by rw [flatten_length hwsz, hwl]
          have hflat : VRs μ' vss.flatten wss.flatten := VRs.flatten (by omega) fun j vs ws hj hwj => by
            obtain ⟨ws', _, h1, _, h3, _⟩ := hget j vs hj
            rw [hwj] at h1
            obtain rfl := Option.some.inj h1
            exact h3
          have hone : ∀ v ∈ vss.flatten, v.one = true := fun v hv' => by
            obtain ⟨l, hl, hvl'⟩ := List.mem_flatten.1 hv'
            obtain ⟨j, hj⟩ := List.mem_iff_getElem?.1 hl
            obtain ⟨_, _, _, _, _, h6, _⟩ := hget j l hj
            exact h6 v hvl'
          have hrd : ∀ (j : Nat) x, (elems.map (·.1) ++ rest.map (·.1))[j]? = some x → Rd T K' e ((vss.flatten.drop (j * ie.size)).take ie.size) x := fun j x hx => by
            rw [← List.map_append] at hx
            simp only [List.getElem?_map, Option.map_eq_some_iff] at hx
            obtain ⟨y, hy, rfl⟩ := hx
            have hjc : j < vss.length := by have := (List.getElem?_eq_some_iff.1 hy).1; omega
            have hj : vss[j]? = some vss[j] := by simp [hjc]
            obtain ⟨_, y', _, h2, _, _, h7, _⟩ := hget j _ hj
            rw [hy] at h2
            obtain rfl := Option.some.inj h2
            rw [flatten_part hvsz hj]
            exact h7
          have hfin : ∀ (K'' : Heap), K' <+: K'' → ∀ b, K''[b]? = some (.row vss.flatten false) → Rd T K'' t [.slc b 0 len cap true ie.size] (.slice (elems.map (·.1)) (rest.map (·.1))) := fun K'' hp b hb =>
            .slc hT hik hE (by simp [hlen]) (by simp; omega) (by
              have := hwt _ (List.mem_cons_self ..)
              rw [hbytes] at this
              simp only [List.length_map] at this
              have e : elems.length + rest.length = cap := by simpa using hcap
              rwa [e] at this) hb hfl (fun j x hx => (hrd j x hx).mono hp)
          by_cases hc0 : cap = 0
          · refine ⟨μ', K' ++ [.row vss.flatten false], ?_, ro'.snoc _, hle, hpre.trans (List.prefix_append ..), [.slc K'.length 0 len cap true ie.size], ?_, by simp [V.one], hfin _ (List.prefix_append ..) _ (by simp)⟩
            · have : vss.flatten = [] := by
                have : vss.flatten.length = 0 := by rw [hfl, hc0]; simp
                exact List.length_eq_zero_iff.1 this
              rw [this]
              exact sim_empty s' ro'
            · simp only [VRs, VR]
              exact ⟨_, [], rfl, ⟨a, cap, rfl, hlc, Nat.le_refl _, fun _ => rfl, .inl ⟨trivial, hc0⟩⟩, rfl⟩
          · -- where the row lies
            have hcell : ∀ i, i < cap * ie.size → ∃ cv, wss.flatten[i]? = some cv ∧ w.cell? (a.add i) = some cv := fun i hi => by
              have hj : i / ie.size < cap := (Nat.div_lt_iff_lt_mul hr2).2 hi
              have hwj : wss[i / ie.size]? = some (wss[i / ie.size]'(by omega)) := by simp [hwl, hj]
              have hc := (hws _ _ hwj).1
              obtain ⟨c1, c2⟩ := cells_at hc
              have hm : i % ie.size < ie.size := Nat.mod_lt _ hr2
              have hx : (wss[i / ie.size]'(by omega))[i % ie.size]? = some ((wss[i / ie.size]'(by omega))[i % ie.size]'(by omega)) := by simp [c1, hm]
              refine ⟨(wss[i / ie.size]'(by omega))[i % ie.size]'(by omega), ?_, ?_⟩
              rotate_left
              · have := c2 _ _ hx
                have e1 : (a.add (i / ie.size * ie.size)).add (i % ie.size) = a.add i := by
                  have key : i / ie.size * ie.size + i % ie.size = i := by rw [Nat.mul_comm]; exact Nat.div_add_mod i ie.size
                  rw [add_add, key]
                rw [e1] at this
                exact this
              · have hp := flatten_part hwsz hwj
                have key : i / ie.size * ie.size + i % ie.size = i := by rw [Nat.mul_comm]; exact Nat.div_add_mod i ie.size
                rw [← hx, ← hp, List.getElem?_take, if_pos hm, List.getElem?_drop, key]
            have hpos : 0 < cap * ie.size := Nat.mul_pos (by omega) hr2
            obtain ⟨c0, _, hc0'⟩ := hcell 0 hpos
            have spot : a.spot = none ∧ a.block < w.heap.size := by
              have := cell_plain hc0'
              unfold Addr.add at this
              simpa using this
            obtain ⟨B, o, sp⟩ := a
            simp only at spot
            obtain ⟨rfl, hB⟩ := spot
            refine ⟨μ'.put K'.length ⟨B, o, cap * ie.size⟩, K' ++ [.row vss.flatten false], ?_, ro'.snoc _, hle.trans (Mu.le_put _ s'.none_len), hpre.trans (List.prefix_append ..), [.slc K'.length 0 len cap true ie.size], ?_, by simp [V.one], hfin _ (List.prefix_append ..) _ (by simp)⟩
            · refine sim_seen s' ro' hB (by rw [hfl]; exact Nat.le_refl _) (fun i hi => ?_) (fun i v hi => ?_)
              · obtain ⟨cv, _, h2⟩ := hcell i hi
                rw [add_at] at h2
                exact ⟨cv, h2⟩
              · have hil : i < cap * ie.size := by rw [← hfl]; exact (List.getElem?_eq_some_iff.1 hi).1
                obtain ⟨cv, h1, h2⟩ := hcell i hil
                rw [add_at] at h2
                obtain ⟨cv', h3, h4⟩ := hflat.get hi
                rw [h1] at h3
                obtain rfl := Option.some.inj h3
                exact ⟨hone v (List.mem_of_getElem? hi), cv, h2, h4⟩
            · simp only [VRs, VR]
              exact ⟨_, [], rfl, ⟨_, cap, rfl, hlc, Nat.le_refl _, fun _ => rfl, .inr ⟨_, 0, Mu.put_same _ _ _, rfl, by simp, fun _ => rfl⟩⟩, rfl⟩
      · rename_i fs hik
        rw [hik] at hk
        obtain ⟨F, places, hu, hF, _⟩ := hk
        simp only [Bool.and_eq_true, List.all_eq_true] at hr
        obtain ⟨hr1, hr2⟩ := hr
        have hr2 : tiles T 0 fs = some i.size := by simpa using hr2
        obtain ⟨xs, n', hn', hx, hcl, hxl, hxf⟩ := DataW.trod_struct hu h
        obtain rfl : fuel = n' := by omega
        simp only [Prod.mk.injEq] at hx
        obtain ⟨rfl, rfl⟩ := hx
        have hcells : P.cellsOf t = i.size := by
          obtain ⟨q, z, hq, q1, _⟩ := hf.info
          simp [Program.cellsOf, hq, q1]
        have hsz : ∀ {u : Nat} {ui : TI}, T u = some ui → P.cellsOf u = ui.size := fun hu => by
          obtain ⟨q, z, hq, q1, _⟩ := (fit _ _ hu).info
          simp [Program.cellsOf, hq, q1]
        have hfl : fs.length = F.size := by rw [← hF]; simp
        have hfget : ∀ (j : Nat) f, fs[j]? = some f → ∃ g, F[j]? = some g ∧ f = (g.type, g.offset) := fun j f hj => by
          rw [← hF] at hj
          simp only [List.getElem?_map, Array.getElem?_toList, Option.map_eq_some_iff] at hj
          obtain ⟨g, hg, rfl⟩ := hj
          exact ⟨g, hg, rfl⟩
        have hTf : ∀ (j : Nat) f, fs[j]? = some f → ∃ fi, T f.1 = some fi := fun j f hj => by
          have := hr1 f (List.mem_of_getElem? hj)
          cases n with
          | zero => cases this
          | succ n =>
            unfold readable at this
            split at this
            · rename_i fi hfi; exact ⟨fi, hfi⟩
            · cases this
        have hin : ∀ x ∈ List.zipWith (fun (f : Nat × Nat) (y : DataW D × List MemPlace) => (f.1, (cs.drop f.2).take (P.cellsOf f.1), y.1)) fs xs, ∀ μ K, Sim μ K w → Ro K → ∃ μ' K', Sees T w μ K x.1 x.2.1 x.2.2 μ' K' := by
          intro x hx μ K s ro
          obtain ⟨j, hj⟩ := List.mem_iff_getElem?.1 hx
          rw [List.getElem?_zipWith] at hj
          cases hfj : fs[j]? with
          | none => rw [hfj] at hj; simp at hj
          | some f =>
            cases hxj : xs[j]? with
            | none => rw [hfj, hxj] at hj; simp at hj
            | some y =>
              rw [hfj, hxj] at hj
              simp at hj
              subst hj
              obtain ⟨g, hg, rfl⟩ := hfget j f hfj
              have ht := hxf j g hg
              rw [hxj] at ht
              refine ih n g.type _ y.1 y.2 (hr1 _ (List.mem_of_getElem? hfj)) ht (fun m hm => hw m ?_) μ K s ro
              simp only [DataW.weights, hu]
              exact DataW.weights_mem_each (j := j) (by simp [hg]) (by simp [hxj]) m hm
        obtain ⟨μ', K', vss, s', ro', hle, hpre, hvl, hv⟩ := sees_all _ hin μ K s ro
        have hzl : (List.zipWith (fun (f : Nat × Nat) (y : DataW D × List MemPlace) => (f.1, (cs.drop f.2).take (P.cellsOf f.1), y.1)) fs xs).length = fs.length := by simp; omega
        rw [hzl] at hvl
        have hget : ∀ (j : Nat) f fi vs, fs[j]? = some f → T f.1 = some fi → vss[j]? = some vs → ∃ y, xs[j]? = some y ∧ VRs μ' vs ((cs.drop f.2).take fi.size) ∧ (∀ v ∈ vs, v.one = true) ∧ Rd T K' f.1 vs y.1 ∧ vs.length = fi.size := fun j f fi vs hfj hfi hj => by
          have hjl : j < fs.length := (List.getElem?_eq_some_iff.1 hfj).1
          have hxj : xs[j]? = some (xs[j]'(by omega)) := by simp
          have hz : (List.zipWith (fun (f : Nat × Nat) (y : DataW D × List MemPlace) => (f.1, (cs.drop f.2).take (P.cellsOf f.1), y.1)) fs xs)[j]? = some (f.1, (cs.drop f.2).take (P.cellsOf f.1), (xs[j]'(by omega)).1) := by rw [List.getElem?_zipWith, hfj, hxj]
          obtain ⟨a1, a2, a3⟩ := hv j _ vs hz hj
          rw [hsz hfi] at a1
          refine ⟨_, hxj, a1, a2, a3, ?_⟩
          have h1 := a1.length
          have h2 := tiles_in hr2 hfj hfi
          simp only [List.length_take, List.length_drop] at h1
          omega
        have hpl : ∀ (j : Nat) f fi vs, fs[j]? = some f → T f.1 = some fi → vss[j]? = some vs → vs.length = fi.size := fun j f fi vs h1 h2 h3 => by
          obtain ⟨_, _, _, _, _, h⟩ := hget j f fi vs h1 h2 h3; exact h
        have hwhole : (fs.map fun f => (cs.drop f.2).take (P.cellsOf f.1)).flatten = cs := by
          rw [tiles_flat (cs := cs) (l := fs.map fun f => (cs.drop f.2).take (P.cellsOf f.1)) hr2 (by omega) (by simp) (fun j f fi x hfj hfi hx => by
            simp only [List.getElem?_map, hfj, Option.map_some, Option.some.injEq] at hx
            rw [← hx, hsz hfi])]
          simp only [List.drop_zero, Nat.sub_zero]
          rw [List.take_of_length_le (by omega)]
        have hflat : VRs μ' vss.flatten cs := by
          rw [← hwhole]
          refine VRs.flatten (by simp [hvl]) fun j vs ws hj hwj => ?_
          simp only [List.getElem?_map, Option.map_eq_some_iff] at hwj
          obtain ⟨f, hfj, rfl⟩ := hwj
          obtain ⟨fi, hfi⟩ := hTf j f hfj
          obtain ⟨_, _, h, _⟩ := hget j f fi vs hfj hfi hj
          rw [hsz hfi]; exact h
        refine ⟨μ', K', s', ro', hle, hpre, vss.flatten, hflat, fun v hv' => ?_, .strct hT hik (by have := hflat.length; omega) (by simp; omega) fun j f fi x hfj hfi hx => ?_⟩
        · obtain ⟨l, hl, hvl'⟩ := List.mem_flatten.1 hv'
          obtain ⟨j, hj⟩ := List.mem_iff_getElem?.1 hl
          have hjl : j < fs.length := by rw [← hvl]; exact (List.getElem?_eq_some_iff.1 hj).1
          have hfj : fs[j]? = some fs[j] := by simp [hjl]
          obtain ⟨fi, hfi⟩ := hTf j _ hfj
          obtain ⟨_, _, _, h6, _⟩ := hget j _ fi l hfj hfi hj
          exact h6 v hvl'
        · simp only [List.getElem?_map, Option.map_eq_some_iff] at hx
          obtain ⟨y, hy, rfl⟩ := hx
          have hjl : j < fs.length := (List.getElem?_eq_some_iff.1 hfj).1
          have hj : vss[j]? = some (vss[j]'(by omega)) := by simp
          obtain ⟨y', h1, _, _, h4, _⟩ := hget j f fi _ hfj hfi hj
          rw [hy] at h1
          obtain rfl := Option.some.inj h1
          have := tiles_part hr2 hvl hpl hfj hfi hj
          rw [Nat.sub_zero] at this
          rw [this]; exact h4
      · cases hr
    · cases hr

end Go.Proofs.Ytekifjeckbndiaa.VM

/- THE SMALL MACHINE, part P: a law's row, from what the small machine says of the law. -/
namespace Go.Proofs.Ytekifjeckbndiaa.VM
open Go Go.ChangeShapes Go.WideShapes Go.RowKit
set_option linter.unusedVariables false
set_option linter.unusedSimpArgs false

variable {P : Program} {T : Tab}

/-- one argument -/
def RdV (T : Tab) (K : Heap) {D : Type} (t : Nat) (v : V) (d : DataW D) : Prop :=
  ∃ i, T t = some i ∧ ((i.k.agg = true ∧ ∃ vs, v = .agg vs ∧ Rd T K t vs d) ∨ (i.k.agg = false ∧ Rd T K t [v] d))

def RdAll (T : Tab) (K : Heap) {D : Type} : List Nat → List V → List (DataW D) → Prop
  | [], [], [] => True
  | t :: ts, v :: vs, d :: ds => RdV T K t v d ∧ RdAll T K ts vs ds
  | _, _, _ => False

theorem RdV.mono {D : Type} {K K' : Heap} (hp : K <+: K') {t : Nat} {v : V} {d : DataW D} (h : RdV T K t v d) : RdV T K' t v d := by
  obtain ⟨i, h1, h2⟩ := h
  refine ⟨i, h1, h2.imp ?_ ?_⟩
  · rintro ⟨a, vs, e, h⟩; exact ⟨a, vs, e, h.mono hp⟩
  · rintro ⟨a, h⟩; exact ⟨a, h.mono hp⟩

theorem VRs.single {μ : Mu} {v : V} {l : List Value} (h : VRs μ [v] l) : ∃ c, l = [c] ∧ VR μ v c := by
  simp only [VRs] at h
  obtain ⟨c, r, rfl, h1, rfl⟩ := h
  exact ⟨c, rfl, h1⟩

theorem trod_arg (fit : Fits P T) {D : Type} {enc : TypeId × Value → D} {w : World} {n t : Nat} {v : Value} {d : DataW D} {ps : List MemPlace} {base : Nat} (hr : readable T n t = true) (hok : Value.okWide P w .any base t v)
    (h : DataW.Trod enc P w 0 (fun _ => true) true t v d ps) (hw : ∀ m ∈ d.weights P t, m ≤ reachBytes) {μ : Mu} {K : Heap} (s : Sim μ K w) (ro : Ro K) :
    ∃ μ' K' u, Sim μ' K' w ∧ Ro K' ∧ Mu.Le μ μ' ∧ K <+: K' ∧ VR μ' u v ∧ RdV T K' t u d := by
  obtain ⟨fuel, h⟩ := h
  obtain ⟨μ', K', s', ro', hle, hpre, vs, h1, h2, h3⟩ := trod_sees fit fuel n t _ d ps hr h hw μ K s ro
  cases n with
  | zero => cases hr
  | succ n =>
  unfold readable at hr
  split at hr
  · rename_i i hT
    have hk := (fit t i hT).kind
    have plain : ∀ {u : V} {ty : TypeDesc}, P.underlying t = some ty → (∀ F, ty ≠ .struct F) → (∀ n e, ty ≠ .array n e) → (∃ x, v.cells = #[x] ∧ v = x) → i.k.agg = false → ∃ u, VR μ' u v ∧ RdV T K' t u d := by
      rintro _ ty hu hs ha ⟨x, hx, rfl⟩ hagg
      rw [hx] at h1
      have hl := h1.length
      match vs, hl, h1, h3 with
      | [u], _, h1, h3 =>
        obtain ⟨c, hc, hvr⟩ := h1.single
        simp only [List.cons.injEq, and_true] at hc
        subst hc
        exact ⟨u, hvr, i, hT, .inr ⟨hagg, h3⟩⟩
    suffices hfin : ∃ u, VR μ' u v ∧ RdV T K' t u d by
      obtain ⟨u, a, b⟩ := hfin
      exact ⟨μ', K', u, s', ro', hle, hpre, a, b⟩
    split at hr
    · rename_i hik
      rw [hik] at hk
      obtain ⟨b, rfl⟩ := okWide_bool hk hok
      exact plain (u := V.undef) hk nofun nofun ⟨_, rfl, rfl⟩ (by rw [hik]; rfl)
    · rename_i k hik
      rw [hik] at hk
      obtain ⟨b, rfl⟩ := okWide_int hk hok
      exact plain (u := V.undef) hk nofun nofun ⟨_, rfl, rfl⟩ (by rw [hik]; rfl)
    · rename_i hik
      rw [hik] at hk
      obtain ⟨b, rfl⟩ := okWide_string hk hok
      exact plain (u := V.undef) hk nofun nofun ⟨_, rfl, rfl⟩ (by rw [hik]; rfl)
    · rename_i e hik
      rw [hik] at hk
      obtain ⟨a, len, cap, rfl⟩ := okWide_slice hk hok
      exact plain (u := V.undef) hk nofun nofun ⟨_, rfl, rfl⟩ (by rw [hik]; rfl)
    · rename_i fs hik
      rw [hik] at hk
      obtain ⟨F, _, hu, _⟩ := hk
      obtain ⟨cs, rfl, _⟩ := okWide_struct hu hok
      refine ⟨.agg vs, ?_, i, hT, .inl ⟨by rw [hik]; rfl, vs, rfl, h3⟩⟩
      simp only [VR]
      exact ⟨cs, rfl, h2, h1⟩
    · cases hr
  · cases hr

theorem trod_args (fit : Fits P T) {D : Type} {enc : TypeId × Value → D} {w : World} {n base : Nat} : ∀ {ts : List TypeId} {vs : List Value} {ds : List (DataW D)} {ps : List MemPlace}, DataW.TrodAll enc P w 0 (fun _ => true) true ts vs ds ps →
    (∀ t ∈ ts, readable T n t = true) → (∀ (j : Nat) t v, ts[j]? = some t → vs[j]? = some v → Value.okWide P w .any base t v) → (∀ (j : Nat) t d, ts[j]? = some t → ds[j]? = some d → ∀ m ∈ d.weights P t, m ≤ reachBytes) → ∀ {μ : Mu} {K : Heap}, Sim μ K w → Ro K →
    ∃ (μ' : Mu) (K' : Heap) (us : List V), Sim μ' K' w ∧ Ro K' ∧ Mu.Le μ μ' ∧ K <+: K' ∧ VRs μ' us vs ∧ RdAll T K' ts us ds
  | [], vs, ds, ps, h, _, _, _, μ, K, s, ro => by
    obtain ⟨rfl, rfl, rfl⟩ := trodAll_nil h
    exact ⟨μ, K, [], s, ro, Mu.Le.refl _, List.prefix_refl _, by simp [VRs], trivial⟩
  | t :: ts, vs, ds, ps, h, hr, hok, hw, μ, K, s, ro => by
    obtain ⟨v, vs', d, ds', p, q, rfl, rfl, rfl, h1, h2⟩ := trodAll_cons h
    obtain ⟨μ1, K1, u, s1, r1, l1, p1, a1, b1⟩ := trod_arg fit (hr t (by simp)) (hok 0 t v rfl rfl) h1 (hw 0 t d rfl rfl) s ro
    obtain ⟨μ2, K2, us, s2, r2, l2, p2, a2, b2⟩ := trod_args fit h2 (fun t ht => hr t (by simp [ht])) (fun j t v ht hv => hok (j + 1) t v (by simpa using ht) (by simpa using hv)) (fun j t d ht hd => hw (j + 1) t d (by simpa using ht) (by simpa using hd)) s1 r1
    refine ⟨μ2, K2, u :: us, s2, r2, l1.trans l2, p1.trans p2, ?_, b1.mono p2, b2⟩
    simp only [VRs]
    exact ⟨v, vs', rfl, a1.mono l2, a2⟩

theorem trod_back {D : Type} {enc : TypeId × Value → D} (hl : laidOutB P = true) {W W' : World} (hb : Below W.heap.size W W') : ∀ {ts : List TypeId} {vs : List Value} {ds : List (DataW D)} {ps : List MemPlace}, DataW.TrodAll enc P W 0 (fun _ => true) true ts vs ds ps →
    (∀ t ∈ ts, P.readableRec t = true ∧ t < P.types.size) → (∀ x ∈ ps, x.block < W.heap.size) → DataW.TrodAll enc P W' 0 (fun b => decide (b < W.heap.size)) true ts vs ds ps
  | [], vs, ds, ps, h, _, _ => by
    obtain ⟨rfl, rfl, rfl⟩ := trodAll_nil h
    exact trodAll_mk0
  | t :: ts, vs, ds, ps, h, hr, hlt => by
    obtain ⟨v, vs', d, ds', p, q, rfl, rfl, rfl, h1, h2⟩ := trodAll_cons h
    exact ⟨p, q, Below.trod hl (hr t (by simp)).1 (hr t (by simp)).2 h1 hb (fun x hx => hlt x (by simp [hx])), trod_back hl hb h2 (fun t ht => hr t (by simp [ht])) (fun x hx => hlt x (by simp [hx])), rfl⟩

theorem trodAll_len {D : Type} {enc : TypeId × Value → D} {w : World} {b : Nat} {sp : Nat → Bool} {hd : Bool} : ∀ {ts : List TypeId} {vs : List Value} {ds : List (DataW D)} {ps : List MemPlace}, DataW.TrodAll enc P w b sp hd ts vs ds ps → ds.length = ts.length
  | [], _, _, _, h => by obtain ⟨_, rfl, _⟩ := trodAll_nil h; rfl
  | _ :: _, _, _, _, h => by obtain ⟨_, _, _, _, _, _, rfl, rfl, _, _, h2⟩ := trodAll_cons h; simp [trodAll_len h2]

theorem sim_none (w : World) : Sim (fun _ => none) [] w := ⟨nofun, nofun, nofun, nofun, nofun, nofun⟩

/-- a law's spec: whatever the input, true; the input reads as it did -/
def TrueSpec (s : ChangeSpec) (n : Nat) : Prop := s.vars = [] ∧ ∀ (D : Type) (ds : List (DataW D)), ds.length = n → (s.fn D ds).results = [.lit (.bool true)] ∧ (s.fn D ds).args = ds ∧ (s.fn D ds).vars = []

/-- THE CONTRACT OF A LAW -/
theorem law_contract (fit : Fits P T) (hl : laidOutB P = true) {f : Nat} {fn : Func} {s : ChangeSpec} {n rt : Nat} (hrt : fn.resultTypes = #[rt]) (hb : P.underlying rt = some .bool)
    (hts : ∀ t ∈ fn.params.toList, readable T n t = true ∧ P.readableRec t = true ∧ t < P.types.size) (hs : TrueSpec s fn.params.size)
    {D : Type} {enc : TypeId × Value → D} {W : World} {base : Nat} {args : Array Value} {ds gs : List (DataW D)} {before : List MemPlace}
    (hval : ∀ (j : Nat) t v, fn.params[j]? = some t → args[j]? = some v → Value.okWide P W .any base t v)
    (hW : DataW.Whole enc P fn.params.toList s.vars false W args.toList ds gs before)
    (hsz : (DataW.weightsEach P (fn.params.toList ++ s.plain.varTypes P) (ds ++ gs)).all (· ≤ reachBytes) = true)
    (main : ∀ (K : Heap) (vs : List V), Ro K → RdAll T K fn.params.toList vs ds → ∃ K', Call P f vs K (.bool true) K') :
    Calls P f args W fun e W' => ∃ v, e = .returned v ∧ s.post enc P fn false true false false W args v W' := by
  have hW' := hW
  obtain ⟨p, q, hA, hV, rfl, hfz, hnd⟩ := hW
  obtain ⟨hs1, hs2⟩ := hs
  rw [hs1] at hV
  obtain ⟨rfl, rfl⟩ := trodVars_none hV
  have hlen := trodAll_len hA
  obtain ⟨μ, K, us, s0, ro, _, _, hu, hrd⟩ := trod_args fit hA (fun t ht => (hts t ht).1) (fun j t v ht hv => hval j t v (by simpa using ht) (by simpa using hv)) (fun j t d ht hd m hm => by
    have := List.all_eq_true.1 hsz m (DataW.weights_mem_each (j := j) (t := t) (d := d) (by rw [List.getElem?_append_left (List.getElem?_eq_some_iff.1 ht).1]; exact ht) (by simpa using hd) m hm)
    simpa using this) (sim_none W) (fun b k hk => by simp at hk)
  obtain ⟨K', hc⟩ := main K us ro hrd
  refine (hc.2 μ W args s0 hu).mono ?_
  rintro e W' ⟨cv, μ', rfl, hv, _, tr⟩
  simp only [VR] at hv
  subst hv
  have bel : Below W.heap.size W W' := ⟨tr.os, tr.tape, tr.output, tr.size, fun B hB => tr.frame B hB fun b x k hx hk ho => by have := ro b k hk; rw [this] at ho; cases ho⟩
  obtain ⟨g1, g2, g3⟩ := hs2 D (ds ++ []) (by simp [hlen])
  refine ⟨_, rfl, ds, [], p ++ [], [], p, [], hW', ?_, ?_, ?_, bel.frame _, fun h => by cases h⟩
  · rw [g1, hrt]
    exact trodAll_mk1 (shut_bool hb true)
  · rw [g2, List.append_nil]
    exact trod_back hl bel hA (fun t ht => (hts t ht).2) (fun x hx => hW'.lt x (by simp [hx]))
  · rw [hs1, g3]
    exact rfl

section
variable {H : Type} {enc : TypeId × Value → H}
/-- the second form's step, with what the input weighs -/
theorem cond_sized {a : Assume} {C : Checked} {os : Os} {f : FuncId} {fn : Func} {s : OpenSpec} {k : (H : Type) → List (DataW H) → Bool} (hk : s.cond = some k) {F : Stop.Interp} {conds : List PathCond} {apart fresh handsOn again : Bool}
    (own : ownKnob C.prog.godebug = none) (started : os.Started) (noInit : C.prog.inits.idxOf? f = none) (hfn : C.prog.funcs[f]? = some fn)
    (witness : ∃ (w : World) (tape : Tape) (i : Input), w.os = os ∧ (w.forCall tape i).Shaped C.prog ∧ i.vars = [] ∧ Input.okWide C.prog (w.forCall tape i) .any w.heap.size f i ∧
      s.pre6 enc C.prog fn conds apart (w.forCall tape i).memory i.args ∧ a.holds C.prog (lone (Frame.enter C.prog f i.args .normal) [] (w.forCall tape i)))
    (contract : ∀ (W : World) (base : Nat) (args : Array Value) (ds gs : List (DataW H)) (before : List MemPlace),
      (∀ (j : Nat) t v, fn.params[j]? = some t → args[j]? = some v → Value.okWide C.prog W .any base t v) →
      DataW.Whole enc C.prog fn.params.toList s.vars apart W args.toList ds gs before → k H (ds ++ gs) = true →
      (DataW.weightsEach C.prog (fn.params.toList ++ s.bare.plain.varTypes C.prog) (ds ++ gs)).all (· ≤ reachBytes) = true →
      Calls C.prog f args W fun e W' => ∃ v, e = .returned v ∧ (s.at F).post enc C.prog fn apart fresh handsOn again W args v W') :
    ReturnsInHanded a C os f .any (s.pre6 enc C.prog fn conds apart) ((s.at F).post enc C.prog fn apart fresh handsOn again) := by
  refine returnsInHanded_of_calls own started noInit witness ?_
  intro w tape i _ _ _ hok hpre hholds
  obtain ⟨_, _, _, fn', hfn', _, _, _, _, hval⟩ := hok
  have e : fn' = fn := Option.some.inj (hfn'.symm.trans hfn)
  subst e
  obtain ⟨ds, gs, before, hw, hc, hkk⟩ := (OpenSpec.pre_some hk conds apart _ _).1 hpre.1
  have hz := hpre.2
  have hw' := DataW.Whole.of_heap (w' := w.forCall tape i) (by rfl) hw
  refine (contract (w.forCall tape i) w.heap.size i.args ds gs before hval hw' hkk (hz.weights hw)).mono fun e W' ⟨v, he, hp⟩ => ?_
  subst he
  exact ChangeSpec.post_blind hp
end

end Go.Proofs.Ytekifjeckbndiaa.VM

/- THE SMALL MACHINE, part W: what was handed in, as lists and numbers. -/
namespace Go.Proofs.Ytekifjeckbndiaa.VM
open Go
set_option linter.unusedVariables false
set_option linter.unusedSimpArgs false

variable {T : Tab} {α : Type} {D : Type}

theorem Rd.isInt {K : Heap} {t : Nat} {i : TI} {k : IntKind} {cs : List V} {d : DataW D} (hT : T t = some i) (hk : i.k = .int k) (h : Rd T K t cs d) : ∃ n, cs = [.int k n] ∧ k.min ≤ n ∧ n ≤ k.max := by
  cases h with
  | int h hk' lo hi => rw [hT] at h; cases h; rw [hk] at hk'; cases hk'; exact ⟨_, rfl, lo, hi⟩
  | bool h hk' => rw [hT] at h; cases h; rw [hk] at hk'; cases hk'
  | str h hk' => rw [hT] at h; cases h; rw [hk] at hk'; cases hk'
  | nils h hk' => rw [hT] at h; cases h; rw [hk] at hk'; cases hk'
  | slc h hk' => rw [hT] at h; cases h; rw [hk] at hk'; cases hk'
  | strct h hk' => rw [hT] at h; cases h; rw [hk] at hk'; cases hk'

theorem Rd.isBool {K : Heap} {t : Nat} {i : TI} {cs : List V} {d : DataW D} (hT : T t = some i) (hk : i.k = .bool) (h : Rd T K t cs d) : ∃ b, cs = [.bool b] := by
  cases h with
  | bool h hk' => exact ⟨_, rfl⟩
  | int h hk' => rw [hT] at h; cases h; rw [hk] at hk'; cases hk'
  | str h hk' => rw [hT] at h; cases h; rw [hk] at hk'; cases hk'
  | nils h hk' => rw [hT] at h; cases h; rw [hk] at hk'; cases hk'
  | slc h hk' => rw [hT] at h; cases h; rw [hk] at hk'; cases hk'
  | strct h hk' => rw [hT] at h; cases h; rw [hk] at hk'; cases hk'

theorem Rd.isStr {K : Heap} {t : Nat} {i : TI} {cs : List V} {d : DataW D} (hT : T t = some i) (hk : i.k = .str) (h : Rd T K t cs d) : ∃ s, cs = [.str s] ∧ s.size ≤ reachBytes := by
  cases h with
  | str h hk' hs => exact ⟨_, rfl, hs⟩
  | int h hk' => rw [hT] at h; cases h; rw [hk] at hk'; cases hk'
  | bool h hk' => rw [hT] at h; cases h; rw [hk] at hk'; cases hk'
  | nils h hk' => rw [hT] at h; cases h; rw [hk] at hk'; cases hk'
  | slc h hk' => rw [hT] at h; cases h; rw [hk] at hk'; cases hk'
  | strct h hk' => rw [hT] at h; cases h; rw [hk] at hk'; cases hk'

theorem Rd.field {K : Heap} {t : Nat} {i : TI} {fs : List (Nat × Nat)} {cs : List V} {d : DataW D} (hT : T t = some i) (hk : i.k = .strct fs) (h : Rd T K t cs d) :
    cs.length = i.size ∧ ∀ (j : Nat) f fi, fs[j]? = some f → T f.1 = some fi → ∃ x : DataW D, Rd T K f.1 ((cs.drop f.2).take fi.size) x := by
  cases h with
  | strct h hk' hl hp hd =>
    rw [hT] at h; cases h; rw [hk] at hk'; cases hk'
    refine ⟨hl, fun j f fi hf hfi => ?_⟩
    rename_i parts
    have hj : j < parts.length := by rw [hp]; exact (List.getElem?_eq_some_iff.1 hf).1
    exact ⟨parts[j], hd j f fi _ hf hfi (by simp [hj])⟩
  | int h hk' => rw [hT] at h; cases h; rw [hk] at hk'; cases hk'
  | bool h hk' => rw [hT] at h; cases h; rw [hk] at hk'; cases hk'
  | nils h hk' => rw [hT] at h; cases h; rw [hk] at hk'; cases hk'
  | slc h hk' => rw [hT] at h; cases h; rw [hk] at hk'; cases hk'
  | str h hk' => rw [hT] at h; cases h; rw [hk] at hk'; cases hk'

theorem list_of {R : Nat → α → Prop} : ∀ (n : Nat), (∀ j, j < n → ∃ x, R j x) → ∃ xs : List α, xs.length = n ∧ ∀ (j : Nat) x, xs[j]? = some x → R j x
  | 0, _ => ⟨[], rfl, by simp⟩
  | n + 1, h => by
    obtain ⟨xs, h1, h2⟩ := list_of n fun j hj => h j (by omega)
    obtain ⟨x, hx⟩ := h n (by omega)
    refine ⟨xs ++ [x], by simp [h1], fun j y hy => ?_⟩
    by_cases hj : j < n
    · rw [List.getElem?_append_left (by omega)] at hy; exact h2 j y hy
    · rw [List.getElem?_append_right (by omega)] at hy
      have : j = n := by
        have := (List.getElem?_eq_some_iff.1 hy).1
        simp at this; omega
      subst this
      simp [h1] at hy
      subst hy; exact hx

/-- a slice that was handed in: with its capacity it weighs so much at most -/
theorem Rd.isSlice {K : Heap} {t e : Nat} {i ie : TI} {v : V} {d : DataW D} {R : List V → α → Prop} (hT : T t = some i) (hk : i.k = .slice e) (hE : T e = some ie) (hR : ∀ cs (x : DataW D), Rd T K e cs x → ∃ y, R cs y) (h : Rd T K t [v] d) :
    ∃ xs, Sl ie.size R K v xs ∧ xs.length * ie.bytes ≤ reachBytes := by
  cases h with
  | nils h hk' => exact ⟨[], .inl ⟨rfl, rfl⟩, by simp⟩
  | slc h hk' he hl hc hb hr hcs hd =>
    rename_i i' e' ie' b len cap cs elems spare
    rw [hT] at h; cases h; rw [hk] at hk'; cases hk'; rw [hE] at he; cases he
    have hlen : len ≤ cap := by omega
    obtain ⟨xs, h1, h2⟩ := list_of (R := fun j y => R ((cs.drop (j * ie.size)).take ie.size) y) len fun j hj => by
      have hj' : j < (elems ++ spare).length := by simp; omega
      exact hR _ _ (hd j ((elems ++ spare)[j]) (by simp [hj']))
    refine ⟨xs, .inr ⟨b, 0, cap, true, cs, false, by rw [h1], by omega, hr, ?_, fun k x hx => by rw [Nat.zero_add]; exact h2 k x hx⟩, ?_⟩
    · have : xs.length * ie.size ≤ cap * ie.size := Nat.mul_le_mul_right _ (by omega)
      omega
    · have : xs.length * ie.bytes ≤ cap * ie.bytes := Nat.mul_le_mul_right _ (by omega)
      omega
  | int h hk' => rw [hT] at h; cases h; rw [hk] at hk'; cases hk'
  | bool h hk' => rw [hT] at h; cases h; rw [hk] at hk'; cases hk'
  | str h hk' => rw [hT] at h; cases h; rw [hk] at hk'; cases hk'
  | strct h hk' => rw [hT] at h; cases h; rw [hk] at hk'; cases hk'

theorem RdV.plain {K : Heap} {t : Nat} {i : TI} {v : V} {d : DataW D} (hT : T t = some i) (ha : i.k.agg = false) (h : RdV T K t v d) : Rd T K t [v] d := by
  obtain ⟨i', h1, h2⟩ := h
  rw [hT] at h1; cases h1
  rcases h2 with ⟨h2, _⟩ | ⟨_, h2⟩
  · rw [ha] at h2; cases h2
  · exact h2
theorem RdV.agg {K : Heap} {t : Nat} {i : TI} {v : V} {d : DataW D} (hT : T t = some i) (ha : i.k.agg = true) (h : RdV T K t v d) : ∃ vs, v = .agg vs ∧ Rd T K t vs d := by
  obtain ⟨i', h1, h2⟩ := h
  rw [hT] at h1; cases h1
  rcases h2 with ⟨_, h2⟩ | ⟨h2, _⟩
  · exact h2
  · rw [ha] at h2; cases h2
theorem RdV.int {K : Heap} {t : Nat} {i : TI} {k : IntKind} {v : V} {d : DataW D} (hT : T t = some i) (hk : i.k = .int k) (h : RdV T K t v d) : ∃ n, v = .int k n ∧ k.min ≤ n ∧ n ≤ k.max := by
  obtain ⟨n, h1, h2⟩ := (h.plain hT (by rw [hk]; rfl)).isInt hT hk
  simp only [List.cons.injEq, and_true] at h1
  exact ⟨n, h1, h2⟩

/-- the arguments one by one -/
theorem rdAll_cons {K : Heap} {t : Nat} {ts : List Nat} {vs : List V} {ds : List (DataW D)} (h : RdAll T K (t :: ts) vs ds) : ∃ v vs' d ds', vs = v :: vs' ∧ ds = d :: ds' ∧ RdV T K t v d ∧ RdAll T K ts vs' ds' := by
  match vs, ds, h with
  | v :: vs', d :: ds', ⟨h1, h2⟩ => exact ⟨v, vs', d, ds', rfl, rfl, h1, h2⟩
theorem rdAll_nil {K : Heap} {vs : List V} {ds : List (DataW D)} (h : RdAll T K [] vs ds) : vs = [] ∧ ds = [] := by
  match vs, ds, h with
  | [], [], _ => exact ⟨rfl, rfl⟩
end Go.Proofs.Ytekifjeckbndiaa.VM

/- THE SMALL MACHINE, part X: slices that the function made itself, over what lay there before. -/
namespace Go.Proofs.Ytekifjeckbndiaa.VM
open Go
set_option linter.unusedVariables false
set_option linter.unusedSimpArgs false

variable {P : Program} {T : Tab} {α : Type}

/-- a slice made over B: nil, or a block of its own behind B -/
def Mine (sz : Nat) (R : List V → α → Prop) (B H : Heap) (v : V) (xs : List α) : Prop :=
  B <+: H ∧ ((v = .nils ∧ xs = []) ∨ ∃ b, B.length ≤ b ∧ Own sz R H b v xs)

theorem Mine.nil {sz : Nat} {R : List V → α → Prop} {B H : Heap} (hp : B <+: H) : Mine sz R B H .nils [] := ⟨hp, .inl ⟨rfl, rfl⟩⟩
theorem Mine.own {sz : Nat} {R : List V → α → Prop} {B H : Heap} {b : Nat} {v : V} {xs : List α} (hp : B <+: H) (hb : B.length ≤ b) (h : Own sz R H b v xs) : Mine sz R B H v xs := ⟨hp, .inr ⟨b, hb, h⟩⟩
theorem Mine.sl {sz : Nat} {R : List V → α → Prop} {B H : Heap} {v : V} {xs : List α} (h : Mine sz R B H v xs) : Sl sz R H v xs := by
  rcases h.2 with ⟨rfl, rfl⟩ | ⟨b, _, h⟩
  · exact .inl ⟨rfl, rfl⟩
  · exact h.sl
theorem Mine.pre {sz : Nat} {R : List V → α → Prop} {B H H' : Heap} {v : V} {xs : List α} (h : Mine sz R B H v xs) (hp : H <+: H') : Mine sz R B H' v xs :=
  ⟨h.1.trans hp, h.2.imp id fun ⟨b, h1, h2⟩ => ⟨b, h1, h2.pre hp⟩⟩
theorem Mine.low {sz : Nat} {R : List V → α → Prop} {B B' H : Heap} {v : V} {xs : List α} (h : Mine sz R B H v xs) (hp : B' <+: B) : Mine sz R B' H v xs :=
  ⟨hp.trans h.1, h.2.imp id fun ⟨b, h1, h2⟩ => ⟨b, Nat.le_trans hp.length_le h1, h2⟩⟩

theorem cells_zeros {sz : Nat} {R : List V → α → Prop} {z : List V} {x : α} (hl : z.length = sz) (h : R z x) : ∀ n, Cells sz R (zeros z n) (List.replicate n x)
  | 0 => Cells.nil
  | n + 1 => by
    have := Cells.cons (R := R) hl h (cells_zeros hl h n)
    unfold zeros at this ⊢
    rw [List.replicate_succ, List.replicate_succ, List.flatten_cons]
    exact this

theorem mine_make {sz : Nat} {R : List V → α → Prop} {B H : Heap} {cs : List V} {xs : List α} {t : Bool} (hp : B <+: H) (h : Cells sz R cs xs) : Mine sz R B (H ++ [.row cs true]) (.slc H.length 0 xs.length xs.length t sz) xs :=
  ⟨hp.trans (List.prefix_append _ _), .inr ⟨H.length, hp.length_le, own_make H h⟩⟩

/-- append -/
theorem Mine.append {sz : Nat} {R : List V → α → Prop} {B H : Heap} {v : V} {xs ys : List α} {news : List V} {ie : TI} (h : Mine sz R B H v xs) (hs : ie.size = sz) (hn : Cells sz R news ys)
    (hb : (xs.length + ys.length) * ie.bytes ≤ 2 ^ 47 ∧ xs.length + ys.length ≤ 2 ^ 47) : ∃ v' H', appendV ie v ys.length news H = some (v', H') ∧ Mine sz R B H' v' (xs ++ ys) := by
  obtain ⟨hp, h⟩ := h
  rcases h with ⟨rfl, rfl⟩ | ⟨b, hb1, ho⟩
  · by_cases h0 : ys.length = 0
    · have : ys = [] := List.length_eq_zero_iff.1 h0
      subst this
      have hn0 : news = [] := List.length_eq_zero_iff.1 (by rw [hn.1]; simp)
      subst hn0
      exact ⟨.nils, H, by simp [appendV], Mine.nil hp⟩
    · refine ⟨.slc H.length 0 ys.length ys.length false sz, H ++ [.row news true], ?_, mine_make hp hn⟩
      unfold appendV
      rw [hs, if_neg (by rw [hn.1]; simp)]
      simp only
      rw [if_neg h0, if_pos (by simpa using hb)]
  · obtain ⟨v', b', H', h1, h2, h3, h4⟩ := own_append ho hs hn hb
    refine ⟨v', H', h1, h3.pre hp hb1, .inr ⟨b', ?_, h2⟩⟩
    have := hp.length_le
    omega

theorem own_store {sz : Nat} {R : List V → α → Prop} {H : Heap} {b : Nat} {v : V} {xs : List α} (ho : Own sz R H b v xs) {t e : Nat} {i ie : TI} (hT : T t = some i) (hk : i.k = .slice e) (hE : T e = some ie) (hs : ie.size = sz) {k : Nat} (hk' : k < xs.length) :
    idxV T t v (k : Int) = some (.ptr b (k * sz)) ∧ ∀ w y, w.isTup = false → w.cells.length = sz → R w.cells y → ∃ H', storeV T e H b (k * sz) w = some H' ∧ Own sz R H' b v (xs.set k y) ∧ Fr b H H' := by
  obtain ⟨cap, t', cs, rfl, h1, h2, h3, h4⟩ := ho
  refine ⟨?_, fun w y hw hl hR => ?_⟩
  · obtain ⟨kk, size, bytes, zero, cmp⟩ := i
    simp only at hk
    subst hk
    simp only [idxV, hT, hE, hs]
    rw [if_pos ⟨by omega, by omega⟩]
    simp
  · have hlb : b < H.length := (List.getElem?_eq_some_iff.1 h2).1
    have hm : (k + 1) * sz ≤ xs.length * sz := Nat.mul_le_mul_right _ hk'
    rw [Nat.add_mul, Nat.one_mul] at hm
    have hfit : k * sz + w.cells.length ≤ cs.length := by rw [hl]; have := h4.1; omega
    have hst : storeV T e H b (k * sz) w = some (H.set b (.row (setL cs (k * sz) w.cells) true)) := by
      unfold storeV
      split
      · cases hw
      · rename_i i' hT' _
        rw [hE] at hT'
        obtain rfl := Option.some.inj hT'
        rw [if_pos (by rw [hl, hs])]
        unfold Heap.storeN
        rw [h2]
        simp only
        rw [if_pos hfit]
      · rename_i hT'
        rw [hE] at hT'
        cases hT'
    refine ⟨_, hst, ⟨cap, t', setL cs (k * sz) w.cells, by simp, by simpa using h1, by rw [List.getElem?_set_self hlb], by rw [setL_length]; exact h3, ?_, ?_, fun j x hj => ?_⟩, by simp, fun b' hb' hne => by rw [List.getElem?_set_ne (fun h => hne h.symm)]⟩
    · rw [setL_length, List.length_set]; exact h4.1
    · rw [List.length_take, setL_length, List.length_set, Nat.min_eq_left h4.1]
    · rw [List.length_set]
      have hjl : j < xs.length := by have := (List.getElem?_eq_some_iff.1 hj).1; simpa using this
      have hjm : (j + 1) * sz ≤ xs.length * sz := Nat.mul_le_mul_right _ hjl
      rw [Nat.add_mul, Nat.one_mul] at hjm
      rw [List.drop_take, List.take_take, Nat.min_eq_left (by omega)]
      by_cases hjk : k = j
      · subst hjk
        rw [List.getElem?_set_self hk'] at hj
        obtain rfl := Option.some.inj hj
        have : ((setL cs (k * sz) w.cells).drop (k * sz)).take sz = w.cells := by
          apply List.ext_getElem?
          intro q
          rw [List.getElem?_take]
          by_cases hq : q < sz
          · rw [if_pos hq, List.getElem?_drop, setL_get, if_pos (by omega), Nat.add_sub_cancel_left]
          · rw [if_neg hq, List.getElem?_eq_none (by omega)]
        rw [this]; exact hR
      · rw [List.getElem?_set_ne hjk] at hj
        have h0 := h4.cell hj
        have hout : ∀ q, q < sz → ¬ (k * sz ≤ j * sz + q ∧ j * sz + q < k * sz + w.cells.length ∧ j * sz + q < cs.length) := by
          intro q hq ⟨c1, c2, _⟩
          rw [hl] at c2
          rcases Nat.lt_or_gt_of_ne hjk with h | h
          · have : (k + 1) * sz ≤ j * sz := Nat.mul_le_mul_right _ h
            rw [Nat.add_mul, Nat.one_mul] at this; omega
          · have : (j + 1) * sz ≤ k * sz := Nat.mul_le_mul_right _ h
            rw [Nat.add_mul, Nat.one_mul] at this; omega
        have : ((setL cs (k * sz) w.cells).drop (j * sz)).take sz = (cs.drop (j * sz)).take sz := by
          apply List.ext_getElem?
          intro q
          rw [List.getElem?_take, List.getElem?_take]
          by_cases hq : q < sz
          · rw [if_pos hq, if_pos hq, List.getElem?_drop, List.getElem?_drop, setL_get, if_neg (hout q hq)]
          · rw [if_neg hq, if_neg hq]
        rw [this]; exact h0

/-- one element of it is written -/
theorem Mine.store {sz : Nat} {R : List V → α → Prop} {B H : Heap} {v : V} {xs : List α} (h : Mine sz R B H v xs) {t e : Nat} {i ie : TI} (hT : T t = some i) (hk : i.k = .slice e) (hE : T e = some ie) (hs : ie.size = sz) {k : Nat} (hk' : k < xs.length) :
    ∃ b o, idxV T t v (k : Int) = some (.ptr b o) ∧ ∀ w y, w.isTup = false → w.cells.length = sz → R w.cells y → ∃ H', storeV T e H b o w = some H' ∧ Mine sz R B H' v (xs.set k y) := by
  obtain ⟨hp, h⟩ := h
  rcases h with ⟨rfl, rfl⟩ | ⟨b, hb1, ho⟩
  · simp at hk'
  · obtain ⟨h1, h2⟩ := own_store ho hT hk hE hs hk'
    refine ⟨b, k * sz, h1, fun w y a b c => ?_⟩
    obtain ⟨H', e1, e2, e3⟩ := h2 w y a b c
    exact ⟨H', e1, e3.pre hp hb1, .inr ⟨_, hb1, e2⟩⟩

/-- a part of a slice -/
theorem Sl.part {sz : Nat} {R : List V → α → Prop} {H : Heap} {v : V} {xs : List α} (h : Sl sz R H v xs) {l k : Nat} (hl : l ≤ k) (hk : k ≤ xs.length) : ∃ u, sliceV sz v (some (.int .i64 (l : Int))) (some (.int .i64 (k : Int))) none = some u ∧ Sl sz R H u ((xs.take k).drop l) := by
  rcases h with ⟨rfl, rfl⟩ | ⟨b, off, cap, t, cs, wr, rfl, h1, h2, h3, h4⟩
  · simp at hk
    subst hk
    obtain rfl : l = 0 := by omega
    exact ⟨.nils, rfl, .inl ⟨rfl, by simp⟩⟩
  · have hlen : ((xs.take k).drop l).length = k - l := by simp; omega
    refine ⟨.slc b (off + l * sz) (k - l) (cap - l) t sz, ?_, .inr ⟨b, off + l * sz, cap - l, t, cs, wr, by rw [hlen], by omega, h2, ?_, fun j x hj => ?_⟩⟩
    · simp only [sliceV, boundV, Option.isSome_none, Bool.false_and, Bool.false_eq_true, if_false, ne_eq, not_true_eq_false]
      rw [if_pos (by omega)]
      simp only [Int.toNat_natCast]
      rw [if_pos (by omega)]
      simp
    · rw [hlen]
      have : (l + (k - l)) * sz ≤ xs.length * sz := Nat.mul_le_mul_right _ (by omega)
      rw [Nat.add_mul] at this
      omega
    · rw [List.getElem?_drop, List.getElem?_take] at hj
      split at hj
      · have := h4 (l + j) x hj
        rw [Nat.add_mul] at this
        rw [Nat.add_assoc]
        exact this
      · cases hj

theorem Sl.two {sz : Nat} {R : List V → α → Prop} {H : Heap} {v : V} {xs : List α} (h : Sl sz R H v xs) : v = .nils ∨ ∃ b o l c t s, v = .slc b o l c t s := by
  rcases h with ⟨h, _⟩ | ⟨b, off, cap, t, cs, wr, h, _⟩
  · exact .inl h
  · exact .inr ⟨_, _, _, _, _, _, h⟩

/-- the rest of a slice -/
theorem Sl.rest {sz : Nat} {R : List V → α → Prop} {H : Heap} {v : V} {xs : List α} (h : Sl sz R H v xs) {l : Nat} (hl : l ≤ xs.length) : ∃ u, sliceV sz v (some (.int .i64 (l : Int))) none none = some u ∧ Sl sz R H u (xs.drop l) := by
  rcases h with ⟨rfl, rfl⟩ | ⟨b, off, cap, t, cs, wr, rfl, h1, h2, h3, h4⟩
  · simp at hl
    subst hl
    exact ⟨.nils, rfl, .inl ⟨rfl, by simp⟩⟩
  · refine ⟨.slc b (off + l * sz) (xs.length - l) (cap - l) t sz, ?_, .inr ⟨b, off + l * sz, cap - l, t, cs, wr, by rw [List.length_drop], by rw [List.length_drop]; omega, h2, ?_, fun j x hj => ?_⟩⟩
    · simp only [sliceV, boundV, Option.isSome_none, Bool.false_and, Bool.false_eq_true, if_false, ne_eq, not_true_eq_false]
      rw [if_pos (by omega)]
      simp
    · rw [List.length_drop]
      have : (l + (xs.length - l)) * sz ≤ xs.length * sz := Nat.mul_le_mul_right _ (by omega)
      rw [Nat.add_mul] at this
      omega
    · rw [List.getElem?_drop] at hj
      have := h4 (l + j) x hj
      rw [Nat.add_mul] at this
      rw [Nat.add_assoc]
      exact this
/-- the block of a slice -/
def V.blk : V → Option Nat
  | .slc b _ _ _ _ _ => some b
  | _ => none
def Apart (v u : V) : Prop := ∀ b c, v.blk = some b → u.blk = some c → b ≠ c

theorem Sl.fr {α : Type} {sz : Nat} {R : List V → α → Prop} {H H' : Heap} {u : V} {zs : List α} (h : Sl sz R H u zs) (hf : ∀ c, c < H.length → u.blk = some c → H'[c]? = H[c]?) : Sl sz R H' u zs := by
  refine h.imp id ?_
  rintro ⟨b, off, cap, t, cs, wr, rfl, h2, h3, h4⟩
  exact ⟨b, off, cap, t, cs, wr, rfl, h2, by rw [hf b (List.getElem?_eq_some_iff.1 h3).1 rfl]; exact h3, h4⟩
theorem Sl.lt {α : Type} {sz : Nat} {R : List V → α → Prop} {H : Heap} {u : V} {zs : List α} (h : Sl sz R H u zs) {c : Nat} (hc : u.blk = some c) : c < H.length := by
  rcases h with ⟨rfl, _⟩ | ⟨b, off, cap, t, cs, wr, rfl, h2, h3, h4⟩
  · cases hc
  · cases hc; exact (List.getElem?_eq_some_iff.1 h3).1
theorem Mine.blk {α : Type} {sz : Nat} {R : List V → α → Prop} {B H : Heap} {v : V} {xs : List α} (h : Mine sz R B H v xs) {b : Nat} (hb : v.blk = some b) : B.length ≤ b ∧ b < H.length := by
  rcases h.2 with ⟨rfl, _⟩ | ⟨b', h1, h2⟩
  · cases hb
  · have hlt := h2.lt
    obtain ⟨cap, t, cs, rfl, _⟩ := h2
    cases hb
    exact ⟨h1, hlt⟩

end Go.Proofs.Ytekifjeckbndiaa.VM

/- THE SMALL MACHINE, part Y: steps that look up their facts themselves. -/
namespace Go.Proofs.Ytekifjeckbndiaa.VM
open Go
set_option linter.unusedVariables false
set_option linter.unusedSimpArgs false

variable {P : Program} {T : Tab} {ops : Array Oper} {rest : List Oper} {Q : Rho → Heap → Prop} {ρ : Rho} {h h' : Heap} {v : V} {k : Nat} {d : Option Nat} {op : Op} {t : Nat} {p : String} {af : Array Edge}

/-- a look-up, an answer: found by itself -/
theorem eLk {α : Type} {a b : α} (h : a = b := by exact (by simp only [beq_self_eq_true, bne_self_eq_false, ev_tmp, ev_const, ev_func, V.of, V.ofs, put_app, put_none, rho0_app, reduceIte, Nat.reduceEqDiff, reduceCtorEq, List.getD_cons_zero, List.getD_cons_succ, evs, optEv, evParts, Option.map_some, List.cons_append, List.nil_append, List.append_nil, List.append_assoc, Nat.zero_add, Nat.add_zero, *]; first | done | rfl)) : a = b := h
theorem eLkB {α : Type} {a b : α} (h : a = b := by exact (by first | (simp only [beq_self_eq_true, bne_self_eq_false, ev_tmp, ev_const, ev_func, V.of, V.ofs, put_app, put_none, rho0_app, reduceIte, Nat.reduceEqDiff, reduceCtorEq, List.getD_cons_zero, List.getD_cons_succ, evs, optEv, evParts, Option.map_some, List.cons_append, List.nil_append, List.append_nil, List.append_assoc, Nat.zero_add, Nat.add_zero, *]; done) | (simp only [beq_self_eq_true, bne_self_eq_false, ev_tmp, ev_const, ev_func, V.of, V.ofs, put_app, put_none, rho0_app, reduceIte, Nat.reduceEqDiff, reduceCtorEq, List.getD_cons_zero, List.getD_cons_succ, evs, optEv, evParts, Option.map_some, List.cons_append, List.nil_append, List.append_nil, List.append_assoc, Nat.zero_add, Nat.add_zero, *]; rfl))) : a = b := h
theorem eLkN {α : Type} {a b : α} (h : a = b := by exact (by simp only [vbin, intBin, shiftBin, strBin, eqlOr, reduceIte, reduceCtorEq, ne_eq, not_true_eq_false, not_false_eq_true, *]; first | done | rfl)) : a = b := h
theorem eLkA {α : Type} {a b : α} (h : a = b := by exact (by simp only [*]; first | done | rfl)) : a = b := h
theorem eLkV {α : Type} {a b : α} (h : a = b := by exact (by first | (simp only [*]; done) | (simp only [*]; rfl) | exact loadV_one (by rfl) (by rfl) (by simp only [loadN_app, loadN_app0]; first | done | rfl) | exact loadV_agg (by rfl) (by rfl) (by simp only [loadN_app, loadN_app0]; first | done | rfl) | (simp only [List.append_assoc, List.cons_append, List.nil_append, List.length_append, List.length_cons, List.length_nil, Nat.zero_add, Nat.add_zero, Nat.reduceAdd, List.set_cons_zero, List.set_cons_succ, *]; done) | (simp only [List.append_assoc, List.cons_append, List.nil_append, List.length_append, List.length_cons, List.length_nil, Nat.zero_add, Nat.add_zero, Nat.reduceAdd, List.set_cons_zero, List.set_cons_succ, *]; rfl) | exact loadV_one (by rfl) (by rfl) (by simp only [List.append_assoc, List.cons_append, List.nil_append, List.length_append, List.length_cons, List.length_nil, Nat.zero_add, Nat.add_zero, Nat.reduceAdd, List.set_cons_zero, List.set_cons_succ, loadN_app, loadN_app0]; first | done | rfl) | exact loadV_agg (by rfl) (by rfl) (by simp only [List.append_assoc, List.cons_append, List.nil_append, List.length_append, List.length_cons, List.length_nil, Nat.zero_add, Nat.add_zero, Nat.reduceAdd, List.set_cons_zero, List.set_cons_succ, loadN_app, loadN_app0]; first | done | rfl))) : a = b := h
theorem eLkS {α : Type} {a b : α} (h : a = b := by exact (by first | (simp only [*]; done) | (simp only [*]; rfl) | (simp only [storeV, storeN_app, storeN_app0, V.cells, *]; first | done | rfl) | (simp only [storeV, List.append_assoc, List.cons_append, List.nil_append, List.length_append, List.length_cons, List.length_nil, Nat.zero_add, Nat.add_zero, Nat.reduceAdd, List.set_cons_zero, List.set_cons_succ, storeN_app, storeN_app0, V.cells, *]; first | done | rfl))) : a = b := h
theorem does_go (hs : Does T ρ h op v h' := by first | exact s_move eLk | exact s_assign eLk | exact s_bin eLk eLk eLkN | exact s_builtin eLk eLkA | exact s_field eLk (by rfl) | exact s_index eLk eLk eLkA | exact s_index2 eLk eLk (by rfl) (by simp only [Int.reduceToNat, Nat.reduceMul, Nat.reduceAdd, Nat.zero_add]; rfl) | exact s_load eLk eLkV | exact s_alloc (by rfl) | exact s_store eLk eLk eLkS | exact s_nil eLk | exact s_pick eLk eLk eLk (by simp only [reduceIte, Bool.false_eq_true, *]; first | done | rfl) | exact s_pick1 eLkB eLk eLk | exact s_pick0 eLkB eLk eLk | exact s_un eLk (by rfl) | exact s_extract eLk (by rfl) | exact s_func rfl eLk | exact s_boxC (by rfl) eLk (by rfl) (by simp only [V.cells]; first | done | rfl) | exact s_conv (by rfl) (by rfl) rfl eLk | exact s_build (by rfl) rfl eLk (by rfl) | exact s_slice (by rfl) rfl (by rfl) eLk eLk eLk eLk eLkA | exact s_buildSlice0 (by rfl) rfl (by rfl) (by first | exact rfl | rfl) | exact s_buildSlice (by rfl) rfl (by rfl) eLk (by decide) (by rfl)) : Does T ρ h op v h' := hs
theorem does_goB (hs : Does T ρ h op v h' := by first | exact s_move eLk | exact s_assign eLk | exact s_bin eLk eLk eLkN | exact s_builtin eLk eLkA | exact s_field eLk (by rfl) | exact s_index eLk eLk eLkA | exact s_index2 eLk eLk (by rfl) (by simp only [Int.reduceToNat, Nat.reduceMul, Nat.reduceAdd, Nat.zero_add]; rfl) | exact s_load eLk eLkV | exact s_alloc (by rfl) | exact s_store eLk eLk eLkS | exact s_nil eLk | exact s_pick eLk eLk eLk (by simp only [reduceIte, Bool.false_eq_true, *]; first | done | rfl) | exact s_pick1 eLkB eLk eLk | exact s_pick0 eLkB eLk eLk | exact s_un eLk (by rfl) | exact s_extract eLk (by rfl) | exact s_func rfl eLk | exact s_boxC (by rfl) eLk (by rfl) (by simp only [V.cells]; first | done | rfl) | exact s_conv (by rfl) (by rfl) rfl eLk | exact s_build (by rfl) rfl eLk (by rfl) | exact s_slice (by rfl) rfl (by rfl) eLk eLk eLk eLk eLkA) : Does T ρ h op v h' := hs
/-- a goal that a walk leaves -/
structure Kept (p : Prop) : Prop where
  val : p

/-- no guard; a guard: what a walk asks first -/
theorem l_pl (hw : wqL P T ops (⟨d, op, t, p, af, none⟩ :: rest) Q ρ h) : wqL P T ops (⟨d, op, t, p, af, none⟩ :: rest) Q ρ h := hw
theorem d_pl (hw : wqD P T ops k (⟨d, op, t, p, af, none⟩ :: rest) Q ρ h) : wqD P T ops k (⟨d, op, t, p, af, none⟩ :: rest) Q ρ h := hw
theorem l_gd {g : Nat × Bool} (hw : wqL P T ops (⟨d, op, t, p, af, some g⟩ :: rest) Q ρ h) : wqL P T ops (⟨d, op, t, p, af, some g⟩ :: rest) Q ρ h := hw
theorem d_gd {g : Nat × Bool} (hw : wqD P T ops k (⟨d, op, t, p, af, some g⟩ :: rest) Q ρ h) : wqD P T ops k (⟨d, op, t, p, af, some g⟩ :: rest) Q ρ h := hw

theorem l_go (hw : wqL P T ops rest Q (ρ.put d v) h') (hs : Does T ρ h op v h' := by exact does_go) : wqL P T ops (⟨d, op, t, p, af, none⟩ :: rest) Q ρ h := l_step hs hw
theorem d_go (hw : wqD P T ops (k + 1) rest Q (ρ.put d v) h') (hs : Does T ρ h op v h' := by exact does_go) : wqD P T ops k (⟨d, op, t, p, af, none⟩ :: rest) Q ρ h := d_step hs hw
theorem l_goB (hw : wqL P T ops rest Q (ρ.put d v) h') (hs : Does T ρ h op v h' := by exact does_goB) : wqL P T ops (⟨d, op, t, p, af, none⟩ :: rest) Q ρ h := l_step hs hw
theorem d_goB (hw : wqD P T ops (k + 1) rest Q (ρ.put d v) h') (hs : Does T ρ h op v h' := by exact does_goB) : wqD P T ops k (⟨d, op, t, p, af, none⟩ :: rest) Q ρ h := d_step hs hw
theorem e_go {ps : List PendR} (hw : wqE P T ops (k + 1) rest ps Q (ρ.put d v) h) (hl : lateAt ops k = false := by decide +kernel) (hp : ∀ p ∈ ps, p.holds T h := by exact (by intro p hp; (repeat (rcases List.mem_cons.1 hp with rfl | hp; exact pend_load eLk eLkV)); exact absurd hp List.not_mem_nil)) (hs : Does T ρ h op v h := by exact does_go) : wqE P T ops k (⟨d, op, t, p, af, none⟩ :: rest) ps Q ρ h := e_step hl hp hs hw
theorem e_goS {ps : List PendR} (hw : wqE P T ops (k + 1) rest ps Q (ρ.put d v) h') (hl : lateAt ops k = false := by decide +kernel) (hs : Does T ρ h op v h' := by first | exact s_move eLk | exact s_assign eLk | exact s_bin eLk eLk eLkN | exact s_builtin eLk eLkA | exact s_field eLk (by rfl) | exact s_index eLk eLk eLkA | exact s_index2 eLk eLk (by rfl) (by simp only [Int.reduceToNat, Nat.reduceMul, Nat.reduceAdd, Nat.zero_add]; rfl) | exact s_load eLk eLkV | exact s_alloc (by rfl) | exact s_store eLk eLk eLkS | exact s_nil eLk | exact s_pick eLk eLk eLk (by simp only [reduceIte, Bool.false_eq_true, *]; first | done | rfl) | exact s_pick1 eLkB eLk eLk | exact s_pick0 eLkB eLk eLk | exact s_un eLk (by rfl) | exact s_extract eLk (by rfl) | exact s_func rfl eLk | exact s_boxC (by rfl) eLk (by rfl) (by simp only [V.cells]; first | done | rfl) | exact s_conv (by rfl) (by rfl) rfl eLk | exact s_build (by rfl) rfl eLk (by rfl) | exact s_slice (by rfl) rfl (by rfl) eLk eLk eLk eLk eLkA | exact s_buildSlice0 (by rfl) rfl (by rfl) (by first | exact rfl | rfl) | exact s_buildSlice (by rfl) rfl (by rfl) eLk (by decide) (by rfl)) (hp : ∀ p ∈ ps, p.holds T h' := by exact (by intro p hp; (repeat (rcases List.mem_cons.1 hp with rfl | hp; exact pend_load eLk eLkV)); exact absurd hp List.not_mem_nil)) : wqE P T ops k (⟨d, op, t, p, af, none⟩ :: rest) ps Q ρ h := e_store hl hs hp hw
theorem e_goL {ps : List PendR} (hw : wqE P T ops (k + 1) rest (⟨ρ, op, v⟩ :: ps) Q (ρ.put d v) h) (hl : lateAt ops k = true := by decide +kernel) (hp : ∀ p ∈ ps, p.holds T h := by exact (by intro p hp; (repeat (rcases List.mem_cons.1 hp with rfl | hp; exact pend_load eLk eLkV)); exact absurd hp List.not_mem_nil)) (hs : Does T ρ h op v h := by first | exact s_move eLk | exact s_assign eLk | exact s_bin eLk eLk eLkN | exact s_builtin eLk eLkA | exact s_field eLk (by rfl) | exact s_index eLk eLk eLkA | exact s_index2 eLk eLk (by rfl) (by simp only [Int.reduceToNat, Nat.reduceMul, Nat.reduceAdd, Nat.zero_add]; rfl) | exact s_load eLk eLkV | exact s_alloc (by rfl) | exact s_store eLk eLk eLkS | exact s_nil eLk | exact s_pick eLk eLk eLk (by simp only [reduceIte, Bool.false_eq_true, *]; first | done | rfl) | exact s_pick1 eLkB eLk eLk | exact s_pick0 eLkB eLk eLk | exact s_un eLk (by rfl) | exact s_extract eLk (by rfl) | exact s_func rfl eLk | exact s_boxC (by rfl) eLk (by rfl) (by simp only [V.cells]; first | done | rfl) | exact s_conv (by rfl) (by rfl) rfl eLk | exact s_build (by rfl) rfl eLk (by rfl) | exact s_slice (by rfl) rfl (by rfl) eLk eLk eLk eLk eLkA | exact s_buildSlice0 (by rfl) rfl (by rfl) (by first | exact rfl | rfl) | exact s_buildSlice (by rfl) rfl (by rfl) eLk (by decide) (by rfl)) (hu : v.under h.length = true := by rfl) : wqE P T ops k (⟨d, op, t, p, af, none⟩ :: rest) ps Q ρ h := e_late hl hp hs hu hw

theorem l_onG {j e : Nat} {w : Bool} (hw : wqL P T ops (⟨d, op, t, p, af, none⟩ :: rest) Q ρ h) (h1 : (ops[j]?).bind (·.dst) = some e := by rfl) (h2 : ρ.ev (.tmp e) = some (.bool w) := by exact eLkB) : wqL P T ops (⟨d, op, t, p, af, some (j, w)⟩ :: rest) Q ρ h := l_on (guard_mk h1 h2) hw
theorem d_onG {j e : Nat} {w : Bool} (hw : wqD P T ops k (⟨d, op, t, p, af, none⟩ :: rest) Q ρ h) (h1 : (ops[j]?).bind (·.dst) = some e := by rfl) (h2 : ρ.ev (.tmp e) = some (.bool w) := by exact eLkB) : wqD P T ops k (⟨d, op, t, p, af, some (j, w)⟩ :: rest) Q ρ h := d_on (guard_mk h1 h2) hw
theorem l_offG {j e : Nat} {w : Bool} (hw : wqL P T ops rest Q (ρ.put d V.undef) h) (h1 : (ops[j]?).bind (·.dst) = some e := by rfl) (h2 : ρ.ev (.tmp e) = some (.bool !w) := by exact eLkB) : wqL P T ops (⟨d, op, t, p, af, some (j, w)⟩ :: rest) Q ρ h := l_off (guard_mk h1 h2) hw (by cases w <;> rfl)
theorem d_offG {j e : Nat} {w : Bool} (hw : wqD P T ops (k + 1) rest Q (ρ.put d V.undef) h) (h1 : (ops[j]?).bind (·.dst) = some e := by rfl) (h2 : ρ.ev (.tmp e) = some (.bool !w) := by exact eLkB) : wqD P T ops k (⟨d, op, t, p, af, some (j, w)⟩ :: rest) Q ρ h := d_off (guard_mk h1 h2) hw (by cases w <;> rfl)

theorem l_partG {j e : Nat} {b w : Bool} (h1 : b = w → wqL P T ops (⟨d, op, t, p, af, none⟩ :: rest) Q ρ h) (h2 : b = !w → wqL P T ops rest Q (ρ.put d V.undef) h) (h3 : (ops[j]?).bind (·.dst) = some e := by rfl) (h4 : ρ.ev (.tmp e) = some (.bool b) := by exact eLk) : wqL P T ops (⟨d, op, t, p, af, some (j, w)⟩ :: rest) Q ρ h := by
  cases w
  · exact l_part' (guard_mk h3 h4) h1 h2
  · exact l_part (guard_mk h3 h4) h1 h2
theorem d_partG {j e : Nat} {b w : Bool} (h1 : b = w → wqD P T ops k (⟨d, op, t, p, af, none⟩ :: rest) Q ρ h) (h2 : b = !w → wqD P T ops (k + 1) rest Q (ρ.put d V.undef) h) (h3 : (ops[j]?).bind (·.dst) = some e := by rfl) (h4 : ρ.ev (.tmp e) = some (.bool b) := by exact eLk) : wqD P T ops k (⟨d, op, t, p, af, some (j, w)⟩ :: rest) Q ρ h := by
  cases w
  · exact d_part' (guard_mk h3 h4) h1 h2
  · exact d_part (guard_mk h3 h4) h1 h2

theorem cond_go {x y : Code} {Q : Exit → Rho → Heap → Prop} {c : Operand} {b : Bool} (h1 : b = true → wq P T x Q ρ h) (h2 : b = false → wq P T y Q ρ h) (hb : ρ.ev c = some (.bool b) := by exact eLk) : wq P T (.cond c x y) Q ρ h := wq_cond hb h1 h2

theorem l_callG {g : Nat} {args : List V} (hcall : Call P g args h v h') (hw : wqL P T ops rest Q (ρ.put d v) h') (hc : callsWhom ρ op = some (g, args) := by exact (by simp only [callsWhom, beq_self_eq_true, bne_self_eq_false, ev_tmp, ev_const, ev_func, V.of, V.ofs, put_app, put_none, rho0_app, reduceIte, Nat.reduceEqDiff, reduceCtorEq, List.getD_cons_zero, List.getD_cons_succ, evs, optEv, evParts, Option.map_some, List.cons_append, List.nil_append, List.append_nil, List.append_assoc, Nat.zero_add, Nat.add_zero, *]; first | done | rfl)) : wqL P T ops (⟨d, op, t, p, af, none⟩ :: rest) Q ρ h := l_call hc hcall hw
theorem d_call0G {g : Nat} {args : List V} (hcall : Call P g args h v h) (hw : wqD P T ops (k + 1) rest Q (ρ.put d v) h) (hc : callsWhom ρ op = some (g, args) := by exact (by simp only [callsWhom, beq_self_eq_true, bne_self_eq_false, ev_tmp, ev_const, ev_func, V.of, V.ofs, put_app, put_none, rho0_app, reduceIte, Nat.reduceEqDiff, reduceCtorEq, List.getD_cons_zero, List.getD_cons_succ, evs, optEv, evParts, Option.map_some, List.cons_append, List.nil_append, List.append_nil, List.append_assoc, Nat.zero_add, Nat.add_zero, *]; first | done | rfl)) : wqD P T ops k (⟨d, op, t, p, af, none⟩ :: rest) Q ρ h := d_call0 hc hcall hw
theorem d_callG {g : Nat} {args : List V} (hcall : Call P g args h v h') (hz : h <+: h' ∨ (h.length ≤ h'.length ∧ barrier ops k = true)) (hw : wqD P T ops (k + 1) rest Q (ρ.put d v) h') (hc : callsWhom ρ op = some (g, args) := by exact (by simp only [callsWhom, beq_self_eq_true, bne_self_eq_false, ev_tmp, ev_const, ev_func, V.of, V.ofs, put_app, put_none, rho0_app, reduceIte, Nat.reduceEqDiff, reduceCtorEq, List.getD_cons_zero, List.getD_cons_succ, evs, optEv, evParts, Option.map_some, List.cons_append, List.nil_append, List.append_nil, List.append_assoc, Nat.zero_add, Nat.add_zero, *]; first | done | rfl)) : wqD P T ops k (⟨d, op, t, p, af, none⟩ :: rest) Q ρ h := d_call hc hcall hz hw
theorem l_appendG {a b : V} {xs : Array Operand} {t1 t2 : Nat} {e : Nat} {i ie : TI} {n : Nat} {news : List V} (hn : newsOf T ie t2 b h = some (n, news)) (ha : appendV ie a n news h = some (v, h')) (hw : wqL P T ops rest Q (ρ.put d v) h') (hx : evs ρ.ev xs.toList = some [a, b] := by exact eLk) (hT : T t1 = some i := by rfl) (hk : i.k = .slice e := by rfl) (hE : T e = some ie := by rfl) :
    wqL P T ops (⟨d, .call { callee := .builtin .append, args := xs, argTypes := #[t1, t2] }, t, p, af, none⟩ :: rest) Q ρ h := l_step (s_append hx hT hk hE hn ha) hw
theorem d_appendG {a b : V} {xs : Array Operand} {t1 t2 : Nat} {e : Nat} {i ie : TI} {n : Nat} {news : List V} (hn : newsOf T ie t2 b h = some (n, news)) (ha : appendV ie a n news h = some (v, h')) (hw : wqD P T ops (k + 1) rest Q (ρ.put d v) h') (hx : evs ρ.ev xs.toList = some [a, b] := by exact eLk) (hT : T t1 = some i := by rfl) (hk : i.k = .slice e := by rfl) (hE : T e = some ie := by rfl) :
    wqD P T ops k (⟨d, .call { callee := .builtin .append, args := xs, argTypes := #[t1, t2] }, t, p, af, none⟩ :: rest) Q ρ h := d_step (s_append hx hT hk hE hn ha) hw
theorem l_makeG {t' e : Nat} {i ie : TI} {x y : Operand} {kx ky : IntKind} {n c : Int} (hT : T t' = some i) (hk : i.k = .slice e) (hE : T e = some ie) (hw : wqL P T ops rest Q (ρ.put d (.slc h.length 0 n.toNat c.toNat true ie.size)) (h ++ [.row (zeros ie.zero c.toNat) true]))
    (hx : ρ.ev x = some (.int kx n) := by exact eLk) (hy : ρ.ev y = some (.int ky c) := by exact eLk) (hb : 0 ≤ n ∧ n ≤ c ∧ (ie.bytes : Int) * c ≤ 2 ^ 48 ∧ c ≤ IntKind.i64.max := by (simp only [IntKind.max, IntKind.signed, IntKind.bits]; omega)) : wqL P T ops (⟨d, .makeSlice t' x y, t, p, af, none⟩ :: rest) Q ρ h := l_step (s_makeSlice hT hk hE hx hy hb) hw
theorem end_retG {rs : List ResultVar} {R : V → Heap → Prop} (hr : R v h) (hv : resRf T rs ρ h = some v := by simp only [resRf, resRs, resR]; first | done | rfl) : EndR T rs R .ret ρ h := end_ret hv hr
/-- a walk to the next call, test, store -/
theorem goW {p q : Prop} (hq : q) (h : Kept q → p := by intro hq; (repeat (first | (refine l_pl ?_; refine l_go ?_) | (refine d_pl ?_; refine d_go ?_) | (refine l_gd ?_; first | refine l_onG ?_ | refine l_offG ?_) | (refine d_gd ?_; first | refine d_onG ?_ | refine d_offG ?_) | refine wq_seq ?_ | refine wq_line ?_ | refine wq_draw (by decide +kernel) ?_ | refine wq_block ?_ | refine l_nil ?_ | refine d_nil ?_ | refine wq_skip ?_ | refine wq_ret ?_ | refine wq_exit ?_ | refine th_normal ?_ | refine th_ret ?_ | refine th_exit ?_ | refine bk_normal ?_ | refine bk_ret ?_ | refine bk_exit ?_ | refine bk_other rfl ?_)); exact hq.val) : p := h ⟨hq⟩
theorem goB {p q : Prop} (hq : q) (h : Kept q → p := by intro hq; (repeat (first | (refine l_pl ?_; refine l_goB ?_) | (refine d_pl ?_; refine d_goB ?_) | (refine l_gd ?_; first | refine l_onG ?_ | refine l_offG ?_) | (refine d_gd ?_; first | refine d_onG ?_ | refine d_offG ?_) | refine wq_seq ?_ | refine wq_line ?_ | refine wq_draw (by decide +kernel) ?_ | refine wq_block ?_ | refine l_nil ?_ | refine d_nil ?_ | refine wq_skip ?_ | refine wq_ret ?_ | refine wq_exit ?_ | refine th_normal ?_ | refine th_ret ?_ | refine th_exit ?_ | refine bk_normal ?_ | refine bk_ret ?_ | refine bk_exit ?_ | refine bk_other rfl ?_)); exact hq.val) : p := h ⟨hq⟩
theorem end_finG {rs : List ResultVar} {v v' : V} {h0 : Heap} (e : v' = v) (hv : resRf T rs ρ h = some v' := by simp only [resRf, resRs, resR]; first | done | rfl) (hp : h0 <+: h := by first | exact List.prefix_refl _ | exact List.prefix_append _ _ | assumption | (refine List.IsPrefix.trans (by assumption) (List.prefix_append _ _)) | (simp only [List.append_assoc, List.cons_append, List.nil_append, List.set_cons_zero, List.set_cons_succ]; exact ⟨_, by simp only [List.append_assoc, List.cons_append, List.nil_append]; rfl⟩)) : EndR T rs (fun w h' => w = v ∧ h0 <+: h') .ret ρ h := end_ret hv ⟨e, hp⟩
end Go.Proofs.Ytekifjeckbndiaa.VM

/- The document's numbers: what the layers compute, in plain Lean. -/
namespace Go.Proofs.Ytekifjeckbndiaa.VM
open Go
set_option linter.unusedVariables false
set_option linter.unusedSimpArgs false

def intC (cs : List V) (n : Int) : Prop := cs = [.int .i64 n]
abbrev W (n : Int) : Int := IntKind.i64.wrap n
def within (x a b : Int) : Bool := decide (x ≥ a) && decide (x ≤ b)
abbrev fixMay (x : Int) : Bool := within x (-1073741824) 1073741824
/-- at least a, at most b -/
def clip (x a b : Int) : Int := if x < a then a else if x > b then b else x
def cut (x : Int) : Int := clip x (-1073741824) 1073741824
def plus (a b : Int) : Int := cut (W (a + b))
def times (a b : Int) : Int := cut ((W (a * b)).fdiv 65536)
def hard (x : Int) : Int := clip x (-65536) 65536
def rise (x : Int) : Int := if x > -65536 ∧ x < 65536 then 65536 else 0
def neg (x : Int) : Int := W (0 - x)
def dotFrom (s : Int) : List Int → List Int → Int
  | x :: xs, y :: ys => dotFrom (plus s (times x y)) xs ys
  | _, _ => s
abbrev dot (xs ys : List Int) : Int := dotFrom 0 xs ys
def vecMay (xs : List Int) : Bool := decide (xs.length ≤ 16) && xs.all fun x => fixMay x
def shapeMay (i h : Int) : Bool := within i 1 3 && within h 1 3
def netSize (i h : Nat) : Nat := h * (i + 1) + h + 1
def fits (i h : Int) (ws : List Int) : Bool := shapeMay i h && vecMay ws && decide ((ws.length : Int) = h * (i + 1) + h + 1)
def feeds (i : Int) (xs : List Int) : Bool := decide ((xs.length : Int) = i) && vecMay xs
/-- one hidden unit -/
def unit (i : Nat) (ws xs : List Int) (h : Nat) : Int := plus (ws.getD (h * (i + 1) + i) 0) (dot ((ws.drop (h * (i + 1))).take i) xs)
def units (i h : Nat) (ws xs : List Int) : List Int := (List.range h).map (unit i ws xs)
def acts (hs : List Int) : List Int := hs.map hard
def tells (i h : Nat) (ws hs : List Int) : Int := plus (ws.getD (h * (i + 1) + h) 0) (dot ((ws.drop (h * (i + 1))).take h) (acts hs))
def outOf (i h : Nat) (ws xs : List Int) : Int := tells i h ws (units i h ws xs)
/-- the gradient -/
def gradRow (i h : Nat) (ws xs : List Int) (e : Int) (hs : List Int) (k : Nat) : List Int :=
  let d := times (times e (ws.getD (h * (i + 1) + k) 0)) (rise (hs.getD k 0))
  xs.map (fun x => times d x) ++ [d]
def grad (i h : Nat) (ws xs : List Int) (y : Int) : List Int :=
  let hs := units i h ws xs
  let e := plus (tells i h ws hs) (neg y)
  (List.range h).flatMap (gradRow i h ws xs e hs) ++ ((acts hs).map (fun a => times e a) ++ [e])

theorem within_iff {x a b : Int} : within x a b = true ↔ a ≤ x ∧ x ≤ b := by simp [within]
theorem clip_mem (x : Int) {a b : Int} (h : a ≤ b) : a ≤ clip x a b ∧ clip x a b ≤ b := by unfold clip; split <;> (try split) <;> omega
theorem clip_id {x a b : Int} (h1 : a ≤ x) (h2 : x ≤ b) : clip x a b = x := by unfold clip; rw [if_neg (by omega), if_neg (by omega)]
theorem cut_may (x : Int) : fixMay (cut x) = true := within_iff.2 (clip_mem x (by decide))
theorem plus_may (a b : Int) : fixMay (plus a b) = true := cut_may _
theorem times_may (a b : Int) : fixMay (times a b) = true := cut_may _
end Go.Proofs.Ytekifjeckbndiaa.VM

/- THE SMALL MACHINE, part Q: a table of types, checked; '==' of structs. -/
namespace Go.Proofs.Ytekifjeckbndiaa.VM
open Go
set_option linter.unusedVariables false
set_option linter.unusedSimpArgs false

variable {P : Program} {T : Tab}

def V.same : V → V → Bool
  | .int k a, .int k' b => decide (k = k') && decide (a = b)
  | .bool a, .bool b => a == b
  | .str a, .str b => decide (a = b)
  | .nilp, .nilp => true
  | .nils, .nils => true
  | _, _ => false
def V.sames : List V → List V → Bool
  | [], [] => true
  | a :: xs, b :: ys => V.same a b && V.sames xs ys
  | _, _ => false

theorem V.same_eq {a b : V} (h : V.same a b = true) : a = b := by
  unfold V.same at h
  split at h <;> simp_all
theorem V.sames_eq : ∀ {xs ys : List V}, V.sames xs ys = true → xs = ys
  | [], [], _ => rfl
  | a :: xs, b :: ys, h => by
    simp only [V.sames, Bool.and_eq_true] at h
    rw [V.same_eq h.1, V.sames_eq h.2]
  | [], _ :: _, h => by simp [V.sames] at h
  | _ :: _, [], h => by simp [V.sames] at h

def kindB (P : Program) (t : Nat) : TK → Bool
  | .bool => match P.underlying t with | some .bool => true | _ => false
  | .int k => match P.underlying t with | some (.int k') => decide (k' = k) | _ => false
  | .str => match P.underlying t with | some .string => true | _ => false
  | .strct fs => match P.underlying t with | some (.struct F) => decide (F.toList.map (fun f => (f.type, f.offset)) = fs) && F.toList.all (fun f => (P.info? f.type).isSome) | _ => false
  | .arr n e => match P.underlying t with | some (.array n' e') => decide (n' = n) && decide (e' = e) | _ => false
  | .slice e => match P.underlying t with | some (.slice e') => decide (e' = e) | _ => false
  | .ptr => match P.underlying t with | some (.pointer _) => true | _ => false
  | .map => match P.underlying t with
    | some (.map k e) => (match P.underlying k with | some (.int .i64) => true | _ => false) && (match P.info? e with | some q => (match q.zero with | some (.int .i64 n) => decide (n = 0) | _ => false) | none => false)
    | _ => false
  | .other => match P.underlying t with | some (.struct _) | some (.array ..) | none => false | _ => true

theorem mapM_of_all {α β : Type} {f : α → Option β} : ∀ {l : List α}, l.all (fun a => (f a).isSome) = true → ∃ ys, l.mapM f = some ys
  | [], _ => ⟨[], rfl⟩
  | a :: l, h => by
    simp only [List.all_cons, Bool.and_eq_true] at h
    obtain ⟨y, hy⟩ := Option.isSome_iff_exists.1 h.1
    obtain ⟨ys, hys⟩ := mapM_of_all h.2
    exact ⟨y :: ys, by rw [List.mapM_cons, hy, hys]; rfl⟩

theorem kind_of {t : Nat} {k : TK} (h : kindB P t k = true) : k.fits P t := by
  cases k with
  | bool => simp only [kindB] at h; simp only [TK.fits]; split at h <;> first | assumption | cases h
  | int k => simp only [kindB] at h; simp only [TK.fits]; split at h <;> first | (simp only [decide_eq_true_eq] at h; subst h; assumption) | cases h
  | str => simp only [kindB] at h; simp only [TK.fits]; split at h <;> first | assumption | cases h
  | strct fs =>
    simp only [kindB] at h; simp only [TK.fits]
    split at h
    · rename_i F hu
      simp only [Bool.and_eq_true, decide_eq_true_eq] at h
      obtain ⟨ys, hys⟩ := mapM_of_all (f := fun f : Field => (P.info? f.type).map fun i => (f.offset, i.size)) (l := F.toList) (by simpa using h.2)
      exact ⟨F, ys, hu, h.1, hys⟩
    · cases h
  | arr n e => simp only [kindB] at h; simp only [TK.fits]; split at h <;> first | (simp only [Bool.and_eq_true, decide_eq_true_eq] at h; obtain ⟨rfl, rfl⟩ := h; assumption) | cases h
  | slice e => simp only [kindB] at h; simp only [TK.fits]; split at h <;> first | (simp only [decide_eq_true_eq] at h; subst h; assumption) | cases h
  | ptr => simp only [kindB] at h; simp only [TK.fits]; split at h <;> first | exact ⟨_, by assumption⟩ | cases h
  | map =>
    simp only [kindB] at h; simp only [TK.fits]
    split at h
    · rename_i k e hu
      simp only [Bool.and_eq_true] at h
      obtain ⟨h1, h2⟩ := h
      split at h1
      · rename_i hk
        split at h2
        · rename_i q hq
          split at h2
          · rename_i n hz
            simp only [decide_eq_true_eq] at h2
            subst h2
            exact ⟨k, e, q, hu, hk, hq, hz⟩
          · cases h2
        · cases h2
      · cases h1
    · cases h
  | other =>
    simp only [kindB] at h; simp only [TK.fits]
    split at h
    · cases h
    · cases h
    · cases h
    · rename_i d h1 h2 h3
      cases hu : P.underlying t with
      | none => exact absurd hu h3
      | some d => exact ⟨d, rfl, fun F e => h1 F (by rw [hu, e]), fun n e he => h2 n e (by rw [hu, he])⟩

def infoB (P : Program) (t : Nat) (i : TI) : Bool :=
  match P.info? t with
  | some q => decide (q.size = i.size) && decide (q.bytes = i.bytes) && (match q.zero with | some z => (match V.ofs z.cells.toList with | some vs => V.sames vs i.zero | none => false) | none => false) && decide (i.zero.length = i.size)
  | none => false

def CK.of : TK → Option CK
  | .bool => some .bool
  | .int _ => some .int
  | .str => some .str
  | _ => none

/-- the kinds of the cells of a type whose '==' holds cell against cell -/
def kinds (P : Program) (T : Tab) : Nat → Nat → Option (List CK)
  | 0, _ => none
  | n + 1, t => match T t with
    | some i => match i.k with
      | .strct fs => if P.stoodInHeld t = false ∧ tiles T 0 fs = some i.size ∧ (P.fieldsOf t).toList.all (fun f => decide (f.name ≠ "_")) = true then (fs.mapM fun f => kinds P T n f.1).map List.flatten else none
      | k => if i.size = 1 then (CK.of k).map fun c => [c] else none
    | none => none

def cmpB (P : Program) (T : Tab) (t : Nat) (i : TI) : Bool :=
  match i.cmp with
  | [] => true
  | c :: cs => (match i.k with | .strct _ => true | _ => false) && decide (kinds P T 9 t = some (c :: cs)) && decide (P.eqGuardType P.depth t = false)

theorem eqs_len : ∀ {ks : List CK} {xs ys : List V} {b : Bool}, eqs ks xs ys = some b → xs.length = ks.length ∧ ys.length = ks.length
  | [], [], [], _, _ => ⟨rfl, rfl⟩
  | k :: ks, x :: xs, y :: ys, b, h => by
    simp only [eqs] at h
    split at h
    · rename_i h2
      have := eqs_len h2
      simp [this.1, this.2]
    · cases h
  | [], _ :: _, _, _, h => by simp [eqs] at h
  | [], [], _ :: _, _, h => by simp [eqs] at h
  | _ :: _, [], _, _, h => by simp [eqs] at h
  | _ :: _, _ :: _, [], _, h => by simp [eqs] at h

theorem eqs_app : ∀ {ks ls : List CK} {xs ys : List V} {b : Bool}, eqs (ks ++ ls) xs ys = some b → ∃ p q, eqs ks (xs.take ks.length) (ys.take ks.length) = some p ∧ eqs ls (xs.drop ks.length) (ys.drop ks.length) = some q ∧ b = (p && q)
  | [], ls, xs, ys, b, h => ⟨true, b, by simp [eqs], by simpa using h, by simp⟩
  | k :: ks, ls, x :: xs, y :: ys, b, h => by
    simp only [List.cons_append, eqs] at h
    split at h
    · rename_i a c h1 h2
      obtain ⟨p, q, g1, g2, rfl⟩ := eqs_app h2
      simp only [Option.some.injEq] at h
      refine ⟨a && p, q, ?_, by simpa using g2, ?_⟩
      · simp only [List.length_cons, List.take_succ_cons, eqs, h1, g1]
      · rw [← h, Bool.and_assoc]
    · cases h
  | _ :: _, _, [], _, _, h => by simp [eqs] at h
  | _ :: _, _, _ :: _, [], _, h => by simp [eqs] at h

theorem kinds_len (hi : ∀ t i, T t = some i → True) : ∀ (n t : Nat) (ks : List CK) (i : TI), kinds P T n t = some ks → T t = some i → ks.length = i.size := by
  intro n
  induction n with
  | zero => intro t ks i h; cases h
  | succ n ih =>
    intro t ks i h hT
    unfold kinds at h
    rw [hT] at h
    simp only at h
    split at h
    · rename_i fs hk
      split at h
      · rename_i hc
        simp only [Option.map_eq_some_iff] at h
        obtain ⟨kss, hm, rfl⟩ := h
        obtain ⟨m1, m2⟩ := mapM_some hm
        have hl := tiles_flat (cs := List.replicate i.size ()) (l := kss.map fun k => List.replicate k.length ()) hc.2.1 (by simp) (by simp [m1]) (fun j f fi x hf hfi hx => by
          simp only [List.getElem?_map, Option.map_eq_some_iff] at hx
          obtain ⟨k, hk, rfl⟩ := hx
          obtain ⟨k', hk', hq⟩ := m2 j f hf
          rw [hk] at hk'
          obtain rfl := Option.some.inj hk'
          have := ih f.1 k fi hq hfi
          have hin := tiles_in hc.2.1 hf hfi
          simp only [List.drop_replicate, List.take_replicate, this]
          congr 1
          omega)
        have hl2 := congrArg List.length hl
        simp only [List.length_flatten, List.map_map, List.length_take, List.length_drop, List.length_replicate] at hl2 ⊢
        have e : (List.length ∘ fun k : List CK => List.replicate k.length ()) = List.length := by funext k; simp
        rw [e] at hl2
        omega
      · cases h
    · split at h
      · rename_i hs
        simp only [Option.map_eq_some_iff] at h
        obtain ⟨c, _, rfl⟩ := h
        simp [hs]
      · cases h

/-- '==' of parts -/
theorem eq_parts (hk : ∀ t i, T t = some i → kindB P t i.k = true ∧ infoB P t i = true) : ∀ (n t : Nat) (ks : List CK) (i : TI), kinds P T n t = some ks → T t = some i → ∀ (d : Nat), n ≤ d → ∀ (μ : Mu) (xs ys : List V) (cx cy : List Value) (b : Bool), VRs μ xs cx → VRs μ ys cy → eqs ks xs ys = some b →
    ∀ (X Y : Array Value) (off : Nat), (X.toList.drop off).take i.size = cx → (Y.toList.drop off).take i.size = cy → ∀ w, ∃ a c, (part t X off).run P w = .ok a w ∧ (part t Y off).run P w = .ok c w ∧ (Op.equalIn d t a c).run P w = .ok b w ∧ (∀ fs, i.k = .strct fs → a = .agg cx.toArray ∧ c = .agg cy.toArray) := by
  intro n
  induction n with
  | zero => intro t ks i h; cases h
  | succ n ih =>
    intro t ks i h hT d hd μ xs ys cx cy b hx hy he X Y off hX hY w
    have hlen := kinds_len (P := P) (T := T) (fun _ _ _ => trivial) _ _ _ _ h hT
    have hel := eqs_len he
    obtain ⟨hkind, hinfo⟩ := hk t i hT
    have hfit := kind_of hkind
    unfold kinds at h
    rw [hT] at h
    simp only at h
    obtain ⟨d, rfl⟩ : ∃ e, d = e + 1 := ⟨d - 1, by omega⟩
    have hq : ∃ q, P.info? t = some q ∧ q.size = i.size := by
      unfold infoB at hinfo
      split at hinfo
      · rename_i q hq
        simp only [Bool.and_eq_true, decide_eq_true_eq] at hinfo
        exact ⟨q, hq, hinfo.1.1.1⟩
      · cases hinfo
    obtain ⟨q, hq, hqs⟩ := hq
    split at h
    · rename_i fs hik
      rw [hik] at hfit
      obtain ⟨F, _, hu, hF, _⟩ := hfit
      split at h
      · rename_i hc
        obtain ⟨c1, c2, c3⟩ := hc
        simp only [Option.map_eq_some_iff] at h
        obtain ⟨kss, hm, rfl⟩ := h
        have hpart : ∀ (Z : Array Value) (cz : List Value), (Z.toList.drop off).take i.size = cz → (part t Z off).run P w = .ok (.agg cz.toArray) w := fun Z cz hz => by
          unfold part
          simp only [isAgg, Sem.run_bind, run_und hu, Result.andThen_ok, Sem.run_pure, if_true, run_size hq, hqs]
          congr 2
          apply Array.toList_inj.1
          rw [← hz]
          simp [Array.toList_extract, List.extract_eq_take_drop]
        refine ⟨_, _, hpart X cx hX, hpart Y cy hY, ?_, fun _ _ => ⟨rfl, rfl⟩⟩
        have hfo : P.fieldsOf t = F := by unfold Program.fieldsOf; rw [hu]
        rw [run_equalIn_struct w d t _ _ (by rw [hfo]; exact hu) c1, hfo]
        rw [hfo] at c3
        -- field by field
        have walk : ∀ (fl : List Field) (o : Nat) (kl : List (List CK)) (us vs : List V) (b : Bool), tiles T o (fl.map fun f => (f.type, f.offset)) = some i.size → fl.all (fun f => decide (f.name ≠ "_")) = true →
            (fl.map fun f => (f.type, f.offset)).mapM (fun f => kinds P T n f.1) = some kl → VRs μ us (cx.drop o) → VRs μ vs (cy.drop o) → eqs kl.flatten us vs = some b → (Op.eqFields d cx.toArray cy.toArray fl).run P w = .ok b w := by
          intro fl
          induction fl with
          | nil =>
            intro o kl us vs b _ _ hm _ _ he
            simp at hm
            subst hm
            simp only [List.flatten_nil] at he
            have hl := eqs_len he
            obtain rfl : us = [] := by simpa using hl.1
            obtain rfl : vs = [] := by simpa using hl.2
            simp only [eqs, Option.some.injEq] at he
            subst he
            simp [Op.eqFields]
          | cons f fl ihf =>
            intro o kl us vs b ht hn hm hus hvs he
            simp only [List.map_cons, tiles] at ht
            split at ht
            · rename_i fi hfi
              split at ht
              · rename_i ho
                subst ho
                simp only [List.all_cons, Bool.and_eq_true, decide_eq_true_eq] at hn
                rw [List.map_cons, List.mapM_cons] at hm
                cases hk1 : kinds P T n f.type with
                | none => simp [hk1] at hm
                | some k1 =>
                  cases hk2 : (fl.map fun f => (f.type, f.offset)).mapM (fun f => kinds P T n f.1) with
                  | none => simp [hk1, hk2] at hm
                  | some kr =>
                    simp [hk1, hk2] at hm
                    subst hm
                    have k1l := kinds_len (P := P) (T := T) (fun _ _ _ => trivial) _ _ _ _ hk1 hfi
                    simp only [List.flatten_cons] at he
                    obtain ⟨p, r, e1, e2, rfl⟩ := eqs_app he
                    obtain ⟨a, c, p1, p2, p3, _⟩ := ih f.type k1 fi hk1 hfi d (by omega) μ _ _ _ _ p (hus.take k1.length) (hvs.take k1.length) e1 cx.toArray cy.toArray f.offset (by simp [k1l]) (by simp [k1l]) w
                    have p4 := ihf (f.offset + fi.size) kr _ _ r ht hn.2 hk2 (by rw [← List.drop_drop, ← k1l]; exact hus.drop k1.length) (by rw [← List.drop_drop, ← k1l]; exact hvs.drop k1.length) e2
                    simp only [Op.eqFields, ne_eq, hn.1, not_false_eq_true, if_true, Sem.run_bind, p1, p2, p3, Result.andThen_ok]
                    cases p
                    · simp
                    · simp [p4]
              · cases ht
            · cases ht
        exact walk F.toList 0 kss xs ys b (by rw [hF]; exact c2) c3 (by rw [hF]; exact hm) (by simpa using hx) (by simpa using hy) he
      · cases h
    · rename_i hns
      split at h
      · rename_i hs
        simp only [Option.map_eq_some_iff] at h
        obtain ⟨c, hc, rfl⟩ := h
        match xs, ys, hel, hx, hy, he with
        | [x], [y], _, hx, hy, he =>
          obtain ⟨vx, rfl, rx⟩ := hx.single
          obtain ⟨vy, rfl, ry⟩ := hy.single
          simp only [eqs] at he
          split at he
          · rename_i a b' e1 e2
            simp only [Option.some.injEq] at he e2
            subst e2
            simp only [Bool.and_true] at he
            subst he
            have hX0 : X[off]? = some vx := by
              have := congrArg (fun l => l[0]?) hX
              simpa [List.getElem?_take, hs] using this
            have hY0 : Y[off]? = some vy := by
              have := congrArg (fun l => l[0]?) hY
              simpa [List.getElem?_take, hs] using this
            have leaf : ∀ {ty : TypeDesc}, P.underlying t = some ty → (∀ F, ty ≠ .struct F) → (∀ n e, ty ≠ .array n e) → (Op.equalIn (d + 1) t vx vy).run P w = .ok a w → ∃ a' c', (part t X off).run P w = .ok a' w ∧ (part t Y off).run P w = .ok c' w ∧ (Op.equalIn (d + 1) t a' c').run P w = .ok a w ∧ (∀ fs, i.k = .strct fs → a' = .agg [vx].toArray ∧ c' = .agg [vy].toArray) := fun {ty} hu h1 h2 h3 => by
              have hp : ∀ (Z : Array Value) (v : Value), Z[off]? = some v → (part t Z off).run P w = .ok v w := fun Z v hz => by
                unfold part
                simp only [isAgg, Sem.run_bind, run_und hu, Result.andThen_ok, Sem.run_pure]
                cases ty <;> first | (exact absurd rfl (h1 _)) | (exact absurd rfl (h2 _ _)) | simp [hz]
              exact ⟨_, _, hp X vx hX0, hp Y vy hY0, h3, fun fs hfs => absurd hfs (hns fs)⟩
            cases hik : i.k with
            | bool =>
              rw [hik] at hc hfit
              simp only [CK.of, Option.some.injEq] at hc
              subst hc
              cases x <;> cases y <;> simp only [V.eq1, reduceCtorEq, Option.some.injEq] at e1
              simp only [VR] at rx ry
              subst rx; subst ry; subst e1
              obtain ⟨a', c', q1, q2, q3, _⟩ := leaf hfit nofun nofun (run_equalIn_bool' w d t _ _ hfit)
              exact ⟨a', c', q1, q2, q3, nofun⟩
            | int k =>
              rw [hik] at hc hfit
              simp only [CK.of, Option.some.injEq] at hc
              subst hc
              cases x <;> cases y <;> simp only [V.eq1, reduceCtorEq, Option.some.injEq] at e1
              split at e1
              · rename_i hkk
                subst hkk
                simp only [Option.some.injEq] at e1
                simp only [VR] at rx ry
                subst rx; subst ry; subst e1
                obtain ⟨a', c', q1, q2, q3, _⟩ := leaf hfit nofun nofun (run_equalIn_int w d t _ _ _ _ hfit)
                exact ⟨a', c', q1, q2, q3, nofun⟩
              · cases e1
            | str =>
              rw [hik] at hc hfit
              simp only [CK.of, Option.some.injEq] at hc
              subst hc
              cases x <;> cases y <;> simp only [V.eq1, reduceCtorEq, Option.some.injEq] at e1
              simp only [VR] at rx ry
              subst rx; subst ry; subst e1
              obtain ⟨a', c', q1, q2, q3, _⟩ := leaf hfit nofun nofun (run_equalIn_string w d t _ _ hfit)
              exact ⟨a', c', q1, q2, q3, nofun⟩
            | strct fs => exact absurd hik (hns fs)
            | arr => rw [hik] at hc; cases hc
            | slice => rw [hik] at hc; cases hc
            | ptr => rw [hik] at hc; cases hc
            | map => rw [hik] at hc; cases hc
            | other => rw [hik] at hc; cases hc
          · cases he
        | [], _, h, _, _, _ => simp at h
        | _ :: _ :: _, _, h, _, _, _ => simp at h
        | [_], [], h, _, _, _ => simp at h
        | [_], _ :: _ :: _, h, _, _, _ => simp at h
      · cases h

/-- a row of types, each checked -/
def tabB (P : Program) (T : Tab) : Nat → List (Option TI) → Bool
  | _, [] => true
  | t, none :: r => tabB P T (t + 1) r
  | t, some i :: r => kindB P t i.k && infoB P t i && cmpB P T t i && tabB P T (t + 1) r

theorem tabB_at : ∀ {l : List (Option TI)} {t j : Nat} {i : TI}, tabB P T t l = true → l[j]? = some (some i) → (kindB P (t + j) i.k = true ∧ infoB P (t + j) i = true) ∧ cmpB P T (t + j) i = true
  | [], _, _, _, _, h => by simp at h
  | none :: r, t, j, i, hb, h => by
    cases j with
    | zero => simp at h
    | succ j =>
      have := tabB_at (l := r) (t := t + 1) (j := j) (i := i) hb (by simpa using h)
      rwa [show t + 1 + j = t + (j + 1) by omega] at this
  | some k :: r, t, j, i, hb, h => by
    simp only [tabB, Bool.and_eq_true] at hb
    cases j with
    | zero => simp at h; subst h; exact hb.1
    | succ j =>
      have := tabB_at (l := r) (t := t + 1) (j := j) (i := i) hb.2 (by simpa using h)
      rwa [show t + 1 + j = t + (j + 1) by omega] at this

/-- A TABLE THAT IS CHECKED FITS -/
theorem fits_of {l : List (Option TI)} (hT : T = fun t => (l[t]?).join) (h : tabB P T 0 l = true) : Fits P T := by
  have get : ∀ t i, T t = some i → l[t]? = some (some i) := fun t i ht => by
    rw [hT] at ht
    cases hl : l[t]? with
    | none => simp [hl] at ht
    | some o => simp [hl] at ht; rw [ht]
  have hall : ∀ t i, T t = some i → (kindB P t i.k = true ∧ infoB P t i = true) ∧ cmpB P T t i = true := fun t i ht => by
    have := tabB_at h (get t i ht)
    rwa [Nat.zero_add] at this
  intro t i ht
  obtain ⟨⟨h1, h2⟩, h3⟩ := hall t i ht
  refine ⟨?_, kind_of h1, fun hc μ xs ys cx cy b hx hy he w => ?_⟩
  · unfold infoB at h2
    split at h2
    · rename_i q hq
      simp only [Bool.and_eq_true, decide_eq_true_eq] at h2
      obtain ⟨⟨⟨a1, a2⟩, a3⟩, a4⟩ := h2
      split at a3
      · rename_i z hz
        split at a3
        · rename_i vs hvs
          obtain rfl := V.sames_eq a3
          exact ⟨q, z, hq, a1, a2, hz, fun μ => (VRs.of_const _ hvs).1, (VRs.of_const (μ := fun _ => none) _ hvs).2, a4⟩
        · cases a3
      · cases a3
    · cases h2
  · unfold cmpB at h3
    split at h3
    · rename_i e; exact absurd e hc
    · rename_i c cs e
      simp only [Bool.and_eq_true, decide_eq_true_eq] at h3
      obtain ⟨⟨h0, h3⟩, h4⟩ := h3
      rw [e] at he
      have hl := kinds_len (P := P) (T := T) (fun _ _ _ => trivial) _ _ _ _ h3 ht
      have hel := eqs_len he
      have hxl := hx.length
      have hyl := hy.length
      have hX : (cx.toList.drop 0).take i.size = cx.toList := by rw [List.drop_zero, List.take_of_length_le (by omega)]
      have hY : (cy.toList.drop 0).take i.size = cy.toList := by rw [List.drop_zero, List.take_of_length_le (by omega)]
      obtain ⟨a, k, p1, p2, p3, p4⟩ := eq_parts (fun t i ht => (hall t i ht).1) 9 t _ i h3 ht Op.maxDepth (by decide) μ xs ys _ _ b hx hy he cx cy 0 hX hY w
      refine ⟨?_, fun op x y => run_eqGuard_agg w op t x y cx cy h4⟩
      split at h0
      · rename_i fs hk
        obtain ⟨rfl, rfl⟩ := p4 fs hk
        simpa [Op.equal] using p3
      · cases h0

end Go.Proofs.Ytekifjeckbndiaa.VM

/- The table of the types of this seat, printed by mktab.py. -/
namespace Go.Proofs.Ytekifjeckbndiaa.VM
open Go

def tabL : List (Option TI) := [
  none,
  none,
  some { k := .int .i64, size := 1, bytes := 8, zero := [.int .i64 0] },
  some { k := .int .i64, size := 1, bytes := 8, zero := [.int .i64 0] },
  some { k := .bool, size := 1, bytes := 1, zero := [.bool false] },
  some { k := .int .u8, size := 1, bytes := 1, zero := [.int .u8 0] },
  some { k := .int .u8, size := 1, bytes := 1, zero := [.int .u8 0] },
  some { k := .strct [(2, 0), (3, 1), (4, 2), (6, 3)], size := 4, bytes := 24, zero := [.int .i64 0, .int .i64 0, .bool false, .int .u8 0] },
  some { k := .strct [(2, 0), (3, 1), (4, 2), (6, 3)], size := 4, bytes := 24, zero := [.int .i64 0, .int .i64 0, .bool false, .int .u8 0] },
  some { k := .str, size := 1, bytes := 16, zero := [.str ByteArray.empty] },
  some { k := .str, size := 1, bytes := 16, zero := [.str ByteArray.empty] },
  some { k := .str, size := 1, bytes := 16, zero := [.str ByteArray.empty] },
  some { k := .int .u64, size := 1, bytes := 8, zero := [.int .u64 0] },
  some { k := .strct [(9, 0), (12, 1)], size := 2, bytes := 24, zero := [.str ByteArray.empty, .int .u64 0] },
  some { k := .strct [(9, 0), (12, 1)], size := 2, bytes := 24, zero := [.str ByteArray.empty, .int .u64 0] },
  some { k := .ptr, size := 1, bytes := 8, zero := [.nilp] },
  some { k := .ptr, size := 1, bytes := 8, zero := [.nilp] },
  some { k := .ptr, size := 1, bytes := 8, zero := [.nilp] },
  some { k := .strct [(17, 0)], size := 1, bytes := 8, zero := [.nilp] },
  some { k := .strct [(17, 0)], size := 1, bytes := 8, zero := [.nilp] },
  none,
  some { k := .int .i32, size := 1, bytes := 4, zero := [.int .i32 0] },
  some { k := .strct [(3, 0), (3, 1)], size := 2, bytes := 16, zero := [.int .i64 0, .int .i64 0] },
  some { k := .strct [(3, 0), (3, 1)], size := 2, bytes := 16, zero := [.int .i64 0, .int .i64 0], cmp := [.int, .int] },
  some { k := .slice 64, size := 1, bytes := 24, zero := [.nils] },
  some { k := .strct [(3, 0), (23, 1), (24, 3), (3, 4), (3, 5), (3, 6), (3, 7), (4, 8)], size := 9, bytes := 88, zero := [.int .i64 0, .int .i64 0, .int .i64 0, .nils, .int .i64 0, .int .i64 0, .int .i64 0, .int .i64 0, .bool false] },
  some { k := .strct [(3, 0), (23, 1), (24, 3), (3, 4), (3, 5), (3, 6), (3, 7), (4, 8)], size := 9, bytes := 88, zero := [.int .i64 0, .int .i64 0, .int .i64 0, .nils, .int .i64 0, .int .i64 0, .int .i64 0, .int .i64 0, .bool false] },
  some { k := .slice 3, size := 1, bytes := 24, zero := [.nils] },
  some { k := .strct [(3, 0), (3, 1)], size := 2, bytes := 16, zero := [.int .i64 0, .int .i64 0] },
  some { k := .strct [(3, 0), (3, 1)], size := 2, bytes := 16, zero := [.int .i64 0, .int .i64 0], cmp := [.int, .int] },
  some { k := .strct [(27, 0), (27, 1), (29, 2), (3, 4)], size := 5, bytes := 72, zero := [.nils, .nils, .int .i64 0, .int .i64 0, .int .i64 0] },
  some { k := .strct [(27, 0), (27, 1), (29, 2), (3, 4)], size := 5, bytes := 72, zero := [.nils, .nils, .int .i64 0, .int .i64 0, .int .i64 0] },
  some { k := .strct [(31, 0), (3, 5)], size := 6, bytes := 80, zero := [.nils, .nils, .int .i64 0, .int .i64 0, .int .i64 0, .int .i64 0] },
  some { k := .strct [(31, 0), (3, 5)], size := 6, bytes := 80, zero := [.nils, .nils, .int .i64 0, .int .i64 0, .int .i64 0, .int .i64 0] },
  none,
  none,
  some { k := .int .i64, size := 1, bytes := 8, zero := [.int .i64 0] },
  none,
  none,
  none,
  none,
  none,
  none,
  none,
  none,
  none,
  none,
  none,
  none,
  none,
  none,
  none,
  some { k := .int .u64, size := 1, bytes := 8, zero := [.int .u64 0] },
  none,
  none,
  none,
  none,
  none,
  none,
  none,
  none,
  none,
  none,
  some { k := .strct [(27, 0), (3, 1)], size := 2, bytes := 32, zero := [.nils, .int .i64 0] },
  some { k := .strct [(27, 0), (3, 1)], size := 2, bytes := 32, zero := [.nils, .int .i64 0] },
  none,
  some { k := .slice 86, size := 1, bytes := 24, zero := [.nils] },
  none,
  none,
  none,
  none,
  none,
  none,
  none,
  none,
  none,
  none,
  none,
  none,
  none,
  none,
  none,
  none,
  none,
  some { k := .slice 5, size := 1, bytes := 24, zero := [.nils] },
  some { k := .strct [(3, 0), (9, 1), (3, 2)], size := 3, bytes := 32, zero := [.int .i64 0, .str ByteArray.empty, .int .i64 0] },
  some { k := .strct [(3, 0), (9, 1), (3, 2)], size := 3, bytes := 32, zero := [.int .i64 0, .str ByteArray.empty, .int .i64 0], cmp := [.int, .str, .int] },
  some { k := .slice 66, size := 1, bytes := 24, zero := [.nils] },
  some { k := .slice 9, size := 1, bytes := 24, zero := [.nils] },
  some { k := .arr 4 3, size := 4, bytes := 32, zero := [.int .i64 0, .int .i64 0, .int .i64 0, .int .i64 0] },
  none,
  none,
  none,
  none,
  none,
  none,
  some { k := .ptr, size := 1, bytes := 8, zero := [.nilp] },
  none,
  none,
  none,
  none,
  none,
  none,
  none,
  none,
  none,
  none,
  none,
  none,
  none,
  none,
  some { k := .ptr, size := 1, bytes := 8, zero := [.nilp] },
  none,
  none,
  none,
  none,
  none,
  none,
  some { k := .int .u32, size := 1, bytes := 4, zero := [.int .u32 0] },
  none,
  none,
  none,
  none,
  none,
  none,
  none,
  none,
  none,
  none,
  none,
  some { k := .ptr, size := 1, bytes := 8, zero := [.nilp] },
  none,
  none,
  none,
  none,
  none,
  some { k := .ptr, size := 1, bytes := 8, zero := [.nilp] },
  some { k := .strct [(23, 0), (27, 2)], size := 3, bytes := 40, zero := [.int .i64 0, .int .i64 0, .nils] },
  some { k := .strct [(23, 0), (27, 2)], size := 3, bytes := 40, zero := [.int .i64 0, .int .i64 0, .nils] },
  none,
  none,
  none,
  none,
  none,
  none,
  none,
  none,
  none,
  none,
  none,
  none,
  none,
  some { k := .slice 27, size := 1, bytes := 24, zero := [.nils] },
  none,
  none,
  none,
  none,
  none,
  none,
  none,
  none,
  none,
  none,
  none,
  none,
  none,
  none,
  some { k := .strct [(17, 0), (17, 1), (17, 2), (9, 3)], size := 4, bytes := 40, zero := [.nilp, .nilp, .nilp, .str ByteArray.empty] },
  some { k := .strct [(17, 0), (17, 1), (17, 2), (9, 3)], size := 4, bytes := 40, zero := [.nilp, .nilp, .nilp, .str ByteArray.empty] },
  some { k := .arr 0 16, size := 0, bytes := 0, zero := [] },
  some { k := .strct [(169, 0)], size := 0, bytes := 0, zero := [] },
  some { k := .strct [(169, 0)], size := 0, bytes := 0, zero := [] },
  none,
  some { k := .int .u8, size := 1, bytes := 1, zero := [.int .u8 0] },
  some { k := .int .u8, size := 1, bytes := 1, zero := [.int .u8 0] },
  none,
  some { k := .ptr, size := 1, bytes := 8, zero := [.nilp] },
  some { k := .int .i32, size := 1, bytes := 4, zero := [.int .i32 0] },
  some { k := .int .i32, size := 1, bytes := 4, zero := [.int .i32 0] },
  none,
  none,
  none
]
def T : Tab := fun t => (tabL[t]?).join
set_option maxRecDepth 100000 in
theorem fit : Fits Try.prog T := fits_of rfl (by kernel_rfl)
theorem mixed : Try.prog.follows .mixedOrders = true := by kernel_rfl
theorem laidOut : laidOutB Try.prog = true := by kernel_rfl
theorem T2 : T 2 = some { k := .int .i64, size := 1, bytes := 8, zero := [.int .i64 0] } := rfl
theorem T3 : T 3 = some { k := .int .i64, size := 1, bytes := 8, zero := [.int .i64 0] } := rfl
theorem T4 : T 4 = some { k := .bool, size := 1, bytes := 1, zero := [.bool false] } := rfl
theorem T5 : T 5 = some { k := .int .u8, size := 1, bytes := 1, zero := [.int .u8 0] } := rfl
theorem T6 : T 6 = some { k := .int .u8, size := 1, bytes := 1, zero := [.int .u8 0] } := rfl
theorem T7 : T 7 = some { k := .strct [(2, 0), (3, 1), (4, 2), (6, 3)], size := 4, bytes := 24, zero := [.int .i64 0, .int .i64 0, .bool false, .int .u8 0] } := rfl
theorem T8 : T 8 = some { k := .strct [(2, 0), (3, 1), (4, 2), (6, 3)], size := 4, bytes := 24, zero := [.int .i64 0, .int .i64 0, .bool false, .int .u8 0] } := rfl
theorem T9 : T 9 = some { k := .str, size := 1, bytes := 16, zero := [.str ByteArray.empty] } := rfl
theorem T10 : T 10 = some { k := .str, size := 1, bytes := 16, zero := [.str ByteArray.empty] } := rfl
theorem T11 : T 11 = some { k := .str, size := 1, bytes := 16, zero := [.str ByteArray.empty] } := rfl
theorem T12 : T 12 = some { k := .int .u64, size := 1, bytes := 8, zero := [.int .u64 0] } := rfl
theorem T13 : T 13 = some { k := .strct [(9, 0), (12, 1)], size := 2, bytes := 24, zero := [.str ByteArray.empty, .int .u64 0] } := rfl
theorem T14 : T 14 = some { k := .strct [(9, 0), (12, 1)], size := 2, bytes := 24, zero := [.str ByteArray.empty, .int .u64 0] } := rfl
theorem T15 : T 15 = some { k := .ptr, size := 1, bytes := 8, zero := [.nilp] } := rfl
theorem T16 : T 16 = some { k := .ptr, size := 1, bytes := 8, zero := [.nilp] } := rfl
theorem T17 : T 17 = some { k := .ptr, size := 1, bytes := 8, zero := [.nilp] } := rfl
theorem T18 : T 18 = some { k := .strct [(17, 0)], size := 1, bytes := 8, zero := [.nilp] } := rfl
theorem T19 : T 19 = some { k := .strct [(17, 0)], size := 1, bytes := 8, zero := [.nilp] } := rfl
theorem T21 : T 21 = some { k := .int .i32, size := 1, bytes := 4, zero := [.int .i32 0] } := rfl
theorem T22 : T 22 = some { k := .strct [(3, 0), (3, 1)], size := 2, bytes := 16, zero := [.int .i64 0, .int .i64 0] } := rfl
theorem T23 : T 23 = some { k := .strct [(3, 0), (3, 1)], size := 2, bytes := 16, zero := [.int .i64 0, .int .i64 0], cmp := [.int, .int] } := rfl
theorem T24 : T 24 = some { k := .slice 64, size := 1, bytes := 24, zero := [.nils] } := rfl
theorem T25 : T 25 = some { k := .strct [(3, 0), (23, 1), (24, 3), (3, 4), (3, 5), (3, 6), (3, 7), (4, 8)], size := 9, bytes := 88, zero := [.int .i64 0, .int .i64 0, .int .i64 0, .nils, .int .i64 0, .int .i64 0, .int .i64 0, .int .i64 0, .bool false] } := rfl
theorem T26 : T 26 = some { k := .strct [(3, 0), (23, 1), (24, 3), (3, 4), (3, 5), (3, 6), (3, 7), (4, 8)], size := 9, bytes := 88, zero := [.int .i64 0, .int .i64 0, .int .i64 0, .nils, .int .i64 0, .int .i64 0, .int .i64 0, .int .i64 0, .bool false] } := rfl
theorem T27 : T 27 = some { k := .slice 3, size := 1, bytes := 24, zero := [.nils] } := rfl
theorem T28 : T 28 = some { k := .strct [(3, 0), (3, 1)], size := 2, bytes := 16, zero := [.int .i64 0, .int .i64 0] } := rfl
theorem T29 : T 29 = some { k := .strct [(3, 0), (3, 1)], size := 2, bytes := 16, zero := [.int .i64 0, .int .i64 0], cmp := [.int, .int] } := rfl
theorem T30 : T 30 = some { k := .strct [(27, 0), (27, 1), (29, 2), (3, 4)], size := 5, bytes := 72, zero := [.nils, .nils, .int .i64 0, .int .i64 0, .int .i64 0] } := rfl
theorem T31 : T 31 = some { k := .strct [(27, 0), (27, 1), (29, 2), (3, 4)], size := 5, bytes := 72, zero := [.nils, .nils, .int .i64 0, .int .i64 0, .int .i64 0] } := rfl
theorem T32 : T 32 = some { k := .strct [(31, 0), (3, 5)], size := 6, bytes := 80, zero := [.nils, .nils, .int .i64 0, .int .i64 0, .int .i64 0, .int .i64 0] } := rfl
theorem T33 : T 33 = some { k := .strct [(31, 0), (3, 5)], size := 6, bytes := 80, zero := [.nils, .nils, .int .i64 0, .int .i64 0, .int .i64 0, .int .i64 0] } := rfl
theorem T36 : T 36 = some { k := .int .i64, size := 1, bytes := 8, zero := [.int .i64 0] } := rfl
theorem T52 : T 52 = some { k := .int .u64, size := 1, bytes := 8, zero := [.int .u64 0] } := rfl
theorem T63 : T 63 = some { k := .strct [(27, 0), (3, 1)], size := 2, bytes := 32, zero := [.nils, .int .i64 0] } := rfl
theorem T64 : T 64 = some { k := .strct [(27, 0), (3, 1)], size := 2, bytes := 32, zero := [.nils, .int .i64 0] } := rfl
theorem T66 : T 66 = some { k := .slice 86, size := 1, bytes := 24, zero := [.nils] } := rfl
theorem T84 : T 84 = some { k := .slice 5, size := 1, bytes := 24, zero := [.nils] } := rfl
theorem T85 : T 85 = some { k := .strct [(3, 0), (9, 1), (3, 2)], size := 3, bytes := 32, zero := [.int .i64 0, .str ByteArray.empty, .int .i64 0] } := rfl
theorem T86 : T 86 = some { k := .strct [(3, 0), (9, 1), (3, 2)], size := 3, bytes := 32, zero := [.int .i64 0, .str ByteArray.empty, .int .i64 0], cmp := [.int, .str, .int] } := rfl
theorem T87 : T 87 = some { k := .slice 66, size := 1, bytes := 24, zero := [.nils] } := rfl
theorem T88 : T 88 = some { k := .slice 9, size := 1, bytes := 24, zero := [.nils] } := rfl
theorem T89 : T 89 = some { k := .arr 4 3, size := 4, bytes := 32, zero := [.int .i64 0, .int .i64 0, .int .i64 0, .int .i64 0] } := rfl
theorem T96 : T 96 = some { k := .ptr, size := 1, bytes := 8, zero := [.nilp] } := rfl
theorem T111 : T 111 = some { k := .ptr, size := 1, bytes := 8, zero := [.nilp] } := rfl
theorem T118 : T 118 = some { k := .int .u32, size := 1, bytes := 4, zero := [.int .u32 0] } := rfl
theorem T130 : T 130 = some { k := .ptr, size := 1, bytes := 8, zero := [.nilp] } := rfl
theorem T136 : T 136 = some { k := .ptr, size := 1, bytes := 8, zero := [.nilp] } := rfl
theorem T137 : T 137 = some { k := .strct [(23, 0), (27, 2)], size := 3, bytes := 40, zero := [.int .i64 0, .int .i64 0, .nils] } := rfl
theorem T138 : T 138 = some { k := .strct [(23, 0), (27, 2)], size := 3, bytes := 40, zero := [.int .i64 0, .int .i64 0, .nils] } := rfl
theorem T152 : T 152 = some { k := .slice 27, size := 1, bytes := 24, zero := [.nils] } := rfl
theorem T167 : T 167 = some { k := .strct [(17, 0), (17, 1), (17, 2), (9, 3)], size := 4, bytes := 40, zero := [.nilp, .nilp, .nilp, .str ByteArray.empty] } := rfl
theorem T168 : T 168 = some { k := .strct [(17, 0), (17, 1), (17, 2), (9, 3)], size := 4, bytes := 40, zero := [.nilp, .nilp, .nilp, .str ByteArray.empty] } := rfl
theorem T169 : T 169 = some { k := .arr 0 16, size := 0, bytes := 0, zero := [] } := rfl
theorem T170 : T 170 = some { k := .strct [(169, 0)], size := 0, bytes := 0, zero := [] } := rfl
theorem T171 : T 171 = some { k := .strct [(169, 0)], size := 0, bytes := 0, zero := [] } := rfl
theorem T173 : T 173 = some { k := .int .u8, size := 1, bytes := 1, zero := [.int .u8 0] } := rfl
theorem T174 : T 174 = some { k := .int .u8, size := 1, bytes := 1, zero := [.int .u8 0] } := rfl
theorem T176 : T 176 = some { k := .ptr, size := 1, bytes := 8, zero := [.nilp] } := rfl
theorem T177 : T 177 = some { k := .int .i32, size := 1, bytes := 4, zero := [.int .i32 0] } := rfl
theorem T178 : T 178 = some { k := .int .i32, size := 1, bytes := 4, zero := [.int .i32 0] } := rfl
end Go.Proofs.Ytekifjeckbndiaa.VM

/- Layers 1, 2, 5: numbers, activation, shapes: the program's functions and the document's. -/
namespace Go.Proofs.Ytekifjeckbndiaa.VM
open Go
set_option linter.unusedVariables false
set_option linter.unusedSimpArgs false
attribute [local irreducible] wq wqL wqD wqE wqO Th Bk EndR
set_option maxHeartbeats 8000000

theorem fixMay_ (H : Heap) (x : Int) : Call Try.prog 111 [.int .i64 x] H (.bool (fixMay x)) H := by
  refine call_plain fit mixed Try.func111 rfl rfl rfl (by kernel_rfl) rfl ?_
  repeat' (first | (refine l_pl ?_; refine l_go ?_) | (refine d_pl ?_; refine d_go ?_) | (refine l_gd ?_; first | refine l_onG ?_ | refine l_offG ?_) | (refine d_gd ?_; first | refine d_onG ?_ | refine d_offG ?_) | refine wq_seq ?_ | refine wq_line ?_ | refine wq_draw (by decide +kernel) ?_ | refine wq_block ?_ | refine l_nil ?_ | refine d_nil ?_ | refine wq_skip ?_ | refine wq_ret ?_ | refine wq_exit ?_ | refine th_normal ?_ | refine th_ret ?_ | refine th_exit ?_ | refine bk_normal ?_ | refine bk_ret ?_ | refine bk_exit ?_ | refine bk_other rfl ?_ | first | refine l_partG (fun hb => ?_) (fun hb => ?_) | refine d_partG (fun hb => ?_) (fun hb => ?_))
  all_goals refine end_finG ?_; simp [put_app, put_none, *]
  all_goals simp_all [within]
  all_goals (first | done | omega)

theorem clip_min (x a b : Int) (h : a ≤ b) : (if (if x > a then x else a) < b then (if x > a then x else a) else b) = clip x a b := by
  unfold clip; split <;> split <;> (try split) <;> omega
theorem clip_max (x a b : Int) (h : a ≤ b) : (if (if x < b then x else b) > a then (if x < b then x else b) else a) = clip x a b := by
  unfold clip; split <;> split <;> (try split) <;> omega

theorem fixCut_ (H : Heap) (x : Int) : Call Try.prog 119 [.int .i64 x] H (.int .i64 (cut x)) H := by
  refine call_plain fit mixed Try.func119 rfl rfl rfl (by kernel_rfl) rfl ?_
  refine goW ?_
  refine end_ret (by simp only [resRf, resRs, resR]; first | done | rfl) ⟨?_, by first | exact List.prefix_refl _ | exact List.prefix_append _ _ | assumption | (refine List.IsPrefix.trans (by assumption) (List.prefix_append _ _)) | (simp only [List.append_assoc, List.cons_append, List.nil_append, List.set_cons_zero, List.set_cons_succ]; exact ⟨_, by simp only [List.append_assoc, List.cons_append, List.nil_append]; rfl⟩)⟩
  simp only [put_app, put_none]
  simp only [Nat.reduceEqDiff, reduceIte, Option.some.injEq, reduceCtorEq]
  rw [clip_min x _ _ (by decide)]
  rfl

theorem fixTimes_ (H : Heap) (a b : Int) : Call Try.prog 97 [.int .i64 a, .int .i64 b] H (.int .i64 (times a b)) H := by
  refine call_plain fit mixed Try.func97 rfl rfl rfl (by kernel_rfl) rfl ?_
  refine goW ?_
  refine l_callG (fixCut_ _ _) ?_
  refine goW ?_
  refine end_ret (by simp only [resRf, resRs, resR]; first | done | rfl) ⟨?_, by first | exact List.prefix_refl _ | exact List.prefix_append _ _ | assumption | (refine List.IsPrefix.trans (by assumption) (List.prefix_append _ _)) | (simp only [List.append_assoc, List.cons_append, List.nil_append, List.set_cons_zero, List.set_cons_succ]; exact ⟨_, by simp only [List.append_assoc, List.cons_append, List.nil_append]; rfl⟩)⟩
  simp [put_app, put_none, times]
  rfl

theorem fixAnd_ (H : Heap) (a b : Int) : Call Try.prog 94 [.int .i64 a, .int .i64 b] H (.int .i64 (plus a b)) H := by
  refine call_plain fit mixed Try.func94 rfl rfl rfl (by kernel_rfl) rfl ?_
  refine goW ?_
  refine l_callG (fixCut_ _ _) ?_
  refine goW ?_
  refine end_ret (by simp only [resRf, resRs, resR]; first | done | rfl) ⟨?_, by first | exact List.prefix_refl _ | exact List.prefix_append _ _ | assumption | (refine List.IsPrefix.trans (by assumption) (List.prefix_append _ _)) | (simp only [List.append_assoc, List.cons_append, List.nil_append, List.set_cons_zero, List.set_cons_succ]; exact ⟨_, by simp only [List.append_assoc, List.cons_append, List.nil_append]; rfl⟩)⟩
  simp [put_app, put_none, plus]

theorem actHard_ (H : Heap) (x : Int) : Call Try.prog 135 [.int .i64 x] H (.int .i64 (hard x)) H := by
  refine call_plain fit mixed Try.func135 rfl rfl rfl (by kernel_rfl) rfl ?_
  refine goW ?_
  refine end_ret (by simp only [resRf, resRs, resR]; first | done | rfl) ⟨?_, by first | exact List.prefix_refl _ | exact List.prefix_append _ _ | assumption | (refine List.IsPrefix.trans (by assumption) (List.prefix_append _ _)) | (simp only [List.append_assoc, List.cons_append, List.nil_append, List.set_cons_zero, List.set_cons_succ]; exact ⟨_, by simp only [List.append_assoc, List.cons_append, List.nil_append]; rfl⟩)⟩
  simp only [put_app, put_none]
  simp only [Nat.reduceEqDiff, reduceIte, Option.some.injEq, reduceCtorEq]
  rw [clip_min x _ _ (by decide)]
  rfl

theorem shapeMay_ (H : Heap) (i h : Int) : Call Try.prog 81 [.agg [.int .i64 i, .int .i64 h]] H (.bool (shapeMay i h)) H := by
  refine call_plain fit mixed Try.func81 rfl rfl rfl (by kernel_rfl) rfl ?_
  repeat' (first | (refine l_pl ?_; refine l_go ?_) | (refine d_pl ?_; refine d_go ?_) | (refine l_gd ?_; first | refine l_onG ?_ | refine l_offG ?_) | (refine d_gd ?_; first | refine d_onG ?_ | refine d_offG ?_) | refine wq_seq ?_ | refine wq_line ?_ | refine wq_draw (by decide +kernel) ?_ | refine wq_block ?_ | refine l_nil ?_ | refine d_nil ?_ | refine wq_skip ?_ | refine wq_ret ?_ | refine wq_exit ?_ | refine th_normal ?_ | refine th_ret ?_ | refine th_exit ?_ | refine bk_normal ?_ | refine bk_ret ?_ | refine bk_exit ?_ | refine bk_other rfl ?_ | first | refine l_partG (fun hb => ?_) (fun hb => ?_) | refine d_partG (fun hb => ?_) (fun hb => ?_))
  all_goals refine end_finG ?_; simp [put_app, put_none, *]
  all_goals simp_all [shapeMay, within]
  all_goals (first | done | omega)

theorem shapeMany_ (H : Heap) (i h : Nat) (hi : i ≤ 3) (hh : h ≤ 3) : Call Try.prog 83 [.agg [.int .i64 i, .int .i64 h]] H (.int .i64 (netSize i h : Nat)) H := by
  refine call_plain fit mixed Try.func83 rfl rfl rfl (by kernel_rfl) rfl ?_
  have hm : h * (i + 1) ≤ 12 := Nat.le_trans (Nat.mul_le_mul hh (Nat.add_le_add_right hi 1)) (by decide)
  have w1 : IntKind.i64.wrap ((i : Int) + 1) = ((i + 1 : Nat) : Int) := wrap_succ (by omega)
  have w2 : IntKind.i64.wrap ((h : Int) * ((i + 1 : Nat) : Int)) = ((h * (i + 1) : Nat) : Int) := by rw [← Int.natCast_mul]; exact wrap_nat (by omega)
  have w3 : IntKind.i64.wrap (((h * (i + 1) : Nat) : Int) + (h : Int)) = ((h * (i + 1) + h : Nat) : Int) := by rw [← Int.natCast_add]; exact wrap_nat (by omega)
  have w4 : IntKind.i64.wrap (((h * (i + 1) + h : Nat) : Int) + 1) = ((h * (i + 1) + h + 1 : Nat) : Int) := wrap_succ (by omega)
  clear hm hi hh
  refine goW ?_
  refine end_ret (by simp only [resRf, resRs, resR]; first | done | rfl) ⟨?_, by first | exact List.prefix_refl _ | exact List.prefix_append _ _ | assumption | (refine List.IsPrefix.trans (by assumption) (List.prefix_append _ _)) | (simp only [List.append_assoc, List.cons_append, List.nil_append, List.set_cons_zero, List.set_cons_succ]; exact ⟨_, by simp only [List.append_assoc, List.cons_append, List.nil_append]; rfl⟩)⟩
  simp only [put_app, put_none]
  rfl

-- the document's
theorem upTo1_ (H : Heap) (x a b : Int) : Call Try.prog 63 [.int .i64 x, .int .i64 a, .int .i64 b] H (.bool (within x a b)) H := by
  refine call_plain fit mixed Try.func63 rfl rfl rfl (by kernel_rfl) rfl ?_
  repeat' (first | (refine l_pl ?_; refine l_go ?_) | (refine d_pl ?_; refine d_go ?_) | (refine l_gd ?_; first | refine l_onG ?_ | refine l_offG ?_) | (refine d_gd ?_; first | refine d_onG ?_ | refine d_offG ?_) | refine wq_seq ?_ | refine wq_line ?_ | refine wq_draw (by decide +kernel) ?_ | refine wq_block ?_ | refine l_nil ?_ | refine d_nil ?_ | refine wq_skip ?_ | refine wq_ret ?_ | refine wq_exit ?_ | refine th_normal ?_ | refine th_ret ?_ | refine th_exit ?_ | refine bk_normal ?_ | refine bk_ret ?_ | refine bk_exit ?_ | refine bk_other rfl ?_ | first | refine l_partG (fun hb => ?_) (fun hb => ?_) | refine d_partG (fun hb => ?_) (fun hb => ?_))
  all_goals refine end_finG ?_; simp [put_app, put_none, *]
  all_goals simp_all [within]
  all_goals (first | done | omega)

theorem refWithin_ (H : Heap) (x a b : Int) (h : a ≤ b) : Call Try.prog 127 [.int .i64 x, .int .i64 a, .int .i64 b] H (.int .i64 (clip x a b)) H := by
  refine call_plain fit mixed Try.func127 rfl rfl rfl (by kernel_rfl) rfl ?_
  have hc := clip_max x a b h
  clear h
  refine goW ?_
  refine end_ret (by simp only [resRf, resRs, resR]; first | done | rfl) ⟨?_, by first | exact List.prefix_refl _ | exact List.prefix_append _ _ | assumption | (refine List.IsPrefix.trans (by assumption) (List.prefix_append _ _)) | (simp only [List.append_assoc, List.cons_append, List.nil_append, List.set_cons_zero, List.set_cons_succ]; exact ⟨_, by simp only [List.append_assoc, List.cons_append, List.nil_append]; rfl⟩)⟩
  simp only [put_app, put_none]
  simp only [Nat.reduceEqDiff, reduceIte, Option.some.injEq, reduceCtorEq]
  try rw [hc]

theorem refFixMay_ (H : Heap) (x : Int) : Call Try.prog 26 [.int .i64 x] H (.bool (fixMay x)) H := by
  refine call_plain fit mixed Try.func26 rfl rfl rfl (by kernel_rfl) rfl ?_
  refine goW ?_
  refine l_callG (upTo1_ _ _ _ _) ?_
  refine goW ?_
  refine end_finG ?_; simp [put_app, put_none, *]

theorem refPlus_ (H : Heap) (a b : Int) : Call Try.prog 99 [.int .i64 a, .int .i64 b] H (.int .i64 (plus a b)) H := by
  refine call_plain fit mixed Try.func99 rfl rfl rfl (by kernel_rfl) rfl ?_
  refine goW ?_
  refine l_callG (refWithin_ _ _ (-1073741824) 1073741824 (by decide)) ?_
  refine goW ?_
  refine end_ret (by simp only [resRf, resRs, resR]; first | done | rfl) ⟨?_, by first | exact List.prefix_refl _ | exact List.prefix_append _ _ | assumption | (refine List.IsPrefix.trans (by assumption) (List.prefix_append _ _)) | (simp only [List.append_assoc, List.cons_append, List.nil_append, List.set_cons_zero, List.set_cons_succ]; exact ⟨_, by simp only [List.append_assoc, List.cons_append, List.nil_append]; rfl⟩)⟩
  simp [put_app, put_none, plus, cut]

theorem refTimes_ (H : Heap) (a b : Int) : Call Try.prog 100 [.int .i64 a, .int .i64 b] H (.int .i64 (times a b)) H := by
  refine call_plain fit mixed Try.func100 rfl rfl rfl (by kernel_rfl) rfl ?_
  refine goW ?_
  refine l_callG (refWithin_ _ _ (-1073741824) 1073741824 (by decide)) ?_
  refine goW ?_
  refine end_ret (by simp only [resRf, resRs, resR]; first | done | rfl) ⟨?_, by first | exact List.prefix_refl _ | exact List.prefix_append _ _ | assumption | (refine List.IsPrefix.trans (by assumption) (List.prefix_append _ _)) | (simp only [List.append_assoc, List.cons_append, List.nil_append, List.set_cons_zero, List.set_cons_succ]; exact ⟨_, by simp only [List.append_assoc, List.cons_append, List.nil_append]; rfl⟩)⟩
  simp [put_app, put_none, times, cut]
  rfl

theorem refShapeMay_ (H : Heap) (i h : Int) : Call Try.prog 66 [.agg [.int .i64 i, .int .i64 h]] H (.bool (shapeMay i h)) H := by
  refine call_plain fit mixed Try.func66 rfl rfl rfl (by kernel_rfl) rfl ?_
  refine goW ?_
  refine l_callG (upTo1_ ..) ?_
  refine goW ?_
  first | refine l_partG (fun hb => ?_) (fun hb => ?_) | refine d_partG (fun hb => ?_) (fun hb => ?_)
  · refine goW ?_
    refine l_callG (upTo1_ ..) ?_
    refine goW ?_
    refine end_finG ?_; simp [put_app, put_none, *]
    simp_all [shapeMay]
  · refine goW ?_
    refine end_finG ?_; simp [put_app, put_none, *]
    simp_all [shapeMay]

theorem refsize_ (H : Heap) (i h : Nat) (hi : i ≤ 3) (hh : h ≤ 3) : Call Try.prog 68 [.agg [.int .i64 i, .int .i64 h]] H (.int .i64 (netSize i h : Nat)) H := by
  refine call_plain fit mixed Try.func68 rfl rfl rfl (by kernel_rfl) rfl ?_
  have hm : h * (i + 1) ≤ 12 := Nat.le_trans (Nat.mul_le_mul hh (Nat.add_le_add_right hi 1)) (by decide)
  have w1 : IntKind.i64.wrap ((i : Int) + 1) = ((i + 1 : Nat) : Int) := wrap_succ (by omega)
  have w2 : IntKind.i64.wrap ((h : Int) * ((i + 1 : Nat) : Int)) = ((h * (i + 1) : Nat) : Int) := by rw [← Int.natCast_mul]; exact wrap_nat (by omega)
  have w3 : IntKind.i64.wrap (((h * (i + 1) : Nat) : Int) + (h : Int)) = ((h * (i + 1) + h : Nat) : Int) := by rw [← Int.natCast_add]; exact wrap_nat (by omega)
  have w4 : IntKind.i64.wrap (((h * (i + 1) + h : Nat) : Int) + 1) = ((h * (i + 1) + h + 1 : Nat) : Int) := wrap_succ (by omega)
  clear hm hi hh
  refine goW ?_
  refine end_ret (by simp only [resRf, resRs, resR]; first | done | rfl) ⟨?_, by first | exact List.prefix_refl _ | exact List.prefix_append _ _ | assumption | (refine List.IsPrefix.trans (by assumption) (List.prefix_append _ _)) | (simp only [List.append_assoc, List.cons_append, List.nil_append, List.set_cons_zero, List.set_cons_succ]; exact ⟨_, by simp only [List.append_assoc, List.cons_append, List.nil_append]; rfl⟩)⟩
  simp only [put_app, put_none]
  rfl
end Go.Proofs.Ytekifjeckbndiaa.VM

/- Layer 4: rows of numbers. -/
namespace Go.Proofs.Ytekifjeckbndiaa.VM
open Go
set_option linter.unusedVariables false
set_option linter.unusedSimpArgs false
attribute [local irreducible] wq wqL wqD wqE wqO Th Bk EndR
set_option maxHeartbeats 8000000

theorem first_bad {α : Type} (p : α → Bool) (xs : List α) : ∃ k, k ≤ xs.length ∧ (∀ (j : Nat) x, j < k → xs[j]? = some x → p x = true) ∧ ((k = xs.length ∧ xs.all p = true) ∨ (xs.all p = false ∧ ∃ x, xs[k]? = some x ∧ p x = false)) := by
  induction xs with
  | nil => exact ⟨0, by simp, by simp, .inl ⟨rfl, rfl⟩⟩
  | cons a xs ih =>
    cases ha : p a with
    | false => exact ⟨0, by simp, by simp, .inr ⟨by simp [ha], a, by simp, ha⟩⟩
    | true =>
      obtain ⟨k, h1, h2, h3⟩ := ih
      refine ⟨k + 1, by simpa using h1, fun j x hj hx => ?_, ?_⟩
      · cases j with
        | zero => simp at hx; subst hx; exact ha
        | succ j => exact h2 j x (by omega) (by simpa using hx)
      · rcases h3 with ⟨h3, h4⟩ | ⟨h3, x, h4, h5⟩
        · exact .inl ⟨by simp [h3], by simpa [ha] using h4⟩
        · exact .inr ⟨by simpa [ha] using h3, x, by simpa using h4, h5⟩

theorem vecOdd_ (H : Heap) (x : Int) : Call Try.prog 133 [.int .i64 x] H (.bool (!fixMay x)) H := by
  refine call_plain fit mixed Try.func133 rfl rfl rfl (by kernel_rfl) rfl ?_
  refine goW ?_
  refine l_callG (fixMay_ _ _) ?_
  refine goW ?_
  refine end_finG ?_; simp [put_app, put_none, *]

theorem indexOdd_ (H : Heap) (v : V) (xs : List Int) (hx : Sl 1 intC H v xs) (hl : xs.length ≤ 2 ^ 47) : ∃ r : Int, decide (r ≥ 0) = !(xs.all fun x => fixMay x) ∧ Call Try.prog 138 [v, .fn 133 []] H (.int .i64 r) H := by
  obtain ⟨k0, hk0, hgood, hend⟩ := first_bad (fun x => fixMay x) xs
  obtain ⟨r, hr⟩ : ∃ r : Int, r = if k0 = xs.length then -1 else (k0 : Int) := ⟨_, rfl⟩
  refine ⟨r, ?_, ?_⟩
  · rcases hend with ⟨h1, h2⟩ | ⟨h2, x, h3, _⟩
    · rw [hr, if_pos h1, h2]; rfl
    · have : k0 < xs.length := (List.getElem?_eq_some_iff.1 h3).1
      rw [hr, if_neg (by omega), h2]
      simp
  refine call_plain fit mixed Try.func138 rfl rfl rfl (by kernel_rfl) rfl ?_
  have hlen := hx.len T27 rfl
  refine goW ?_
  refine wq_loop (fun c ρ h => ∃ k, k ≤ k0 ∧ c = xs.length - k ∧ h = H ∧ ρ 0 = v ∧ ρ 1 = .fn 133 [] ∧ ρ 7 = .int .i64 xs.length ∧ ρ 8 = .int .i64 (k : Nat)) ⟨0, Nat.zero_le _, rfl, rfl, rfl, rfl, rfl, rfl⟩ ?_
  rintro _ ρ h ⟨k, hk, rfl, rfl, h0, h1, h7, h8⟩
  refine goW ?_
  refine cond_go (fun hb => ?_) (fun hb => ?_)
  · have hk' : k < xs.length := by simpa using hb
    clear hb
    obtain ⟨x, hxk⟩ : ∃ x, xs[k]? = some x := ⟨xs[k], by simp [hk']⟩
    obtain ⟨b, o, cs, hi, rfl, _, hlo, _⟩ := hx.get T27 rfl T3 rfl hxk
    have ho := loadV_one T3 rfl hlo
    have hw := wrap_succ (n := k) (by omega)
    have hodd := vecOdd_ h x
    by_cases hkk : k < k0
    · have hg : fixMay x = true := hgood k x hkk hxk
      rw [hg] at hodd
      clear hend hg
      refine goW ?_
      refine l_callG hodd ?_
      refine goW ?_
      refine cond_go (fun hb => ?_) (fun hb => ?_)
      · cases hb
      · refine goW ?_
        refine ⟨xs.length - (k + 1), by omega, k + 1, hkk, rfl, rfl, ?_⟩
        simp [put_app, put_none, *]
    · have hkk' : k = k0 := by omega
      rcases hend with ⟨h2, _⟩ | ⟨_, y, h3, h4⟩
      · omega
      · rw [← hkk', hxk] at h3
        obtain rfl := Option.some.inj h3
        have hg : fixMay x = false := h4
        rw [hg] at hodd
        rw [if_neg (by omega), ← hkk'] at hr
        subst hr
        clear hgood h3 h4 hg hkk hkk' hk hk0
        refine goW ?_
        refine l_callG hodd ?_
        refine goW ?_
        refine cond_go (fun hb => ?_) (fun hb => ?_)
        · refine goW ?_
          refine end_ret (by simp only [resRf, resRs, resR]; first | done | rfl) ⟨?_, by first | exact List.prefix_refl _ | exact List.prefix_append _ _ | assumption | (refine List.IsPrefix.trans (by assumption) (List.prefix_append _ _)) | (simp only [List.append_assoc, List.cons_append, List.nil_append, List.set_cons_zero, List.set_cons_succ]; exact ⟨_, by simp only [List.append_assoc, List.cons_append, List.nil_append]; rfl⟩)⟩
          simp [put_app, put_none]
        · cases hb
  · have hk' : k = xs.length := by have : ¬ k < xs.length := by simpa using hb
                                   omega
    rw [if_pos (by omega)] at hr
    clear hb hgood hend
    refine goW ?_
    refine end_ret (by simp only [resRf, resRs, resR]; first | done | rfl) ⟨?_, by first | exact List.prefix_refl _ | exact List.prefix_append _ _ | assumption | (refine List.IsPrefix.trans (by assumption) (List.prefix_append _ _)) | (simp only [List.append_assoc, List.cons_append, List.nil_append, List.set_cons_zero, List.set_cons_succ]; exact ⟨_, by simp only [List.append_assoc, List.cons_append, List.nil_append]; rfl⟩)⟩
    rw [hr]
    simp [put_app, put_none]

theorem vecMay_ (H : Heap) (v : V) (xs : List Int) (hx : Sl 1 intC H v xs) (hl : xs.length ≤ 2 ^ 47) : Call Try.prog 118 [v] H (.bool (vecMay xs)) H := by
  refine call_plain fit mixed Try.func118 rfl rfl rfl (by kernel_rfl) rfl ?_
  have hlen := hx.len T27 rfl
  obtain ⟨r, hr, hidx⟩ := indexOdd_ H v xs hx hl
  have hcon : Call Try.prog 134 [v, .fn 133 []] H (.bool (!(xs.all fun x => fixMay x))) H := by
    refine call_plain fit mixed Try.func134 rfl rfl rfl (by kernel_rfl) rfl ?_
    refine goW ?_
    refine l_callG hidx ?_
    refine goW ?_
    refine end_finG ?_; simp [put_app, put_none, *]
  clear hr hidx
  refine goW ?_
  first | refine l_partG (fun hb => ?_) (fun hb => ?_) | refine d_partG (fun hb => ?_) (fun hb => ?_)
  · refine goW ?_
    refine l_callG hcon ?_
    refine goW ?_
    refine end_ret (by simp only [resRf, resRs, resR]; first | done | rfl) ⟨?_, by first | exact List.prefix_refl _ | exact List.prefix_append _ _ | assumption | (refine List.IsPrefix.trans (by assumption) (List.prefix_append _ _)) | (simp only [List.append_assoc, List.cons_append, List.nil_append, List.set_cons_zero, List.set_cons_succ]; exact ⟨_, by simp only [List.append_assoc, List.cons_append, List.nil_append]; rfl⟩)⟩
    have hb' : xs.length ≤ 16 := by have := of_decide_eq_true hb; omega
    simp [put_app, put_none, vecMay, hb']
  · refine goW ?_
    refine end_ret (by simp only [resRf, resRs, resR]; first | done | rfl) ⟨?_, by first | exact List.prefix_refl _ | exact List.prefix_append _ _ | assumption | (refine List.IsPrefix.trans (by assumption) (List.prefix_append _ _)) | (simp only [List.append_assoc, List.cons_append, List.nil_append, List.set_cons_zero, List.set_cons_succ]; exact ⟨_, by simp only [List.append_assoc, List.cons_append, List.nil_append]; rfl⟩)⟩
    have hb' : ¬ xs.length ≤ 16 := by have := of_decide_eq_false hb; omega
    simp [put_app, put_none, vecMay, hb']

theorem dotFrom_succ : ∀ {xs ys : List Int} {s : Int} {k : Nat} {x y : Int}, xs[k]? = some x → ys[k]? = some y → dotFrom s (xs.take (k + 1)) (ys.take (k + 1)) = plus (dotFrom s (xs.take k) (ys.take k)) (times x y)
  | [], _, _, _, _, _, h, _ => by simp at h
  | _ :: _, [], _, _, _, _, _, h => by simp at h
  | a :: xs, b :: ys, s, 0, x, y, h, g => by
    simp at h g
    subst h; subst g
    simp [dotFrom]
  | a :: xs, b :: ys, s, k + 1, x, y, h, g => by
    simp only [List.take_succ_cons, dotFrom]
    exact dotFrom_succ (by simpa using h) (by simpa using g)
theorem dotFrom_take : ∀ {xs ys : List Int} {s : Int}, dotFrom s xs (ys.take xs.length) = dotFrom s xs ys
  | [], _, _ => by simp [dotFrom]
  | _ :: _, [], _ => by simp [dotFrom]
  | a :: xs, b :: ys, s => by
    simp only [List.length_cons, List.take_succ_cons, dotFrom]
    exact dotFrom_take

theorem vecSum_ (H : Heap) (u v : V) (xs ys : List Int) (hx : Sl 1 intC H u xs) (hy : Sl 1 intC H v ys) (hl : xs.length ≤ ys.length) (hl2 : xs.length ≤ 2 ^ 47) : Call Try.prog 121 [u, v] H (.int .i64 (dot xs ys)) H := by
  refine call_plain fit mixed Try.func121 rfl rfl rfl (by kernel_rfl) rfl ?_
  have hlen := hx.len T27 rfl
  refine goW ?_
  refine wq_loop (fun c ρ h => ∃ k, k ≤ xs.length ∧ c = xs.length - k ∧ h = H ∧ ρ 1 = v ∧ ρ 8 = u ∧ ρ 9 = .int .i64 xs.length ∧ ρ 10 = .int .i64 (k : Nat) ∧ ρ 5 = .int .i64 (dot (xs.take k) (ys.take k))) ⟨0, Nat.zero_le _, rfl, rfl, rfl, rfl, rfl, rfl, rfl⟩ ?_
  rintro _ ρ h ⟨k, hk, rfl, rfl, h1, h8, h9, h10, h5⟩
  refine goW ?_
  refine cond_go (fun hb => ?_) (fun hb => ?_)
  · have hk' : k < xs.length := by simpa using hb
    clear hb
    obtain ⟨x, hxk⟩ : ∃ x, xs[k]? = some x := ⟨xs[k], by simp [hk']⟩
    obtain ⟨y, hyk⟩ : ∃ x, ys[k]? = some x := ⟨ys[k]'(by omega), by simp⟩
    obtain ⟨b, o, cs, hi, rfl, _, hlo, _⟩ := hx.get T27 rfl T3 rfl hxk
    obtain ⟨b2, o2, cs, hi2, rfl, _, hlo2, _⟩ := hy.get T27 rfl T3 rfl hyk
    have ho := loadV_one T3 rfl hlo
    have ho2 := loadV_one T3 rfl hlo2
    have hw := wrap_succ (n := k) (by omega)
    have hs : dot (xs.take (k + 1)) (ys.take (k + 1)) = _ := dotFrom_succ hxk hyk
    have c1 := fixTimes_ h x y
    have c2 := fixAnd_ h (dot (xs.take k) (ys.take k)) (times x y)
    rw [← hs] at c2
    clear hs
    refine goW ?_
    refine l_callG c1 ?_
    refine goW ?_
    refine l_callG c2 ?_
    refine goW ?_
    refine ⟨xs.length - (k + 1), by omega, k + 1, hk', rfl, rfl, ?_⟩
    simp [put_app, put_none, *]
  · have hk' : k = xs.length := by have : ¬ k < xs.length := by simpa using hb
                                   omega
    subst hk'
    rw [List.take_of_length_le (Nat.le_refl _), dot, dotFrom_take] at h5
    clear hb
    refine goW ?_
    refine end_finG ?_; simp [put_app, put_none, *]

-- the document's
theorem refVecMay_ (H : Heap) (v : V) (xs : List Int) (hx : Sl 1 intC H v xs) (hl : xs.length ≤ 2 ^ 47) : Call Try.prog 67 [v] H (.bool (vecMay xs)) H := by
  refine call_plain fit mixed Try.func67 rfl rfl rfl (by kernel_rfl) rfl ?_
  have hlen := hx.len T27 rfl
  refine goW ?_
  refine wq_loop (fun c ρ h => ∃ k, k ≤ xs.length ∧ c = xs.length - k ∧ h = H ∧ (∀ (j : Nat) x, j < k → xs[j]? = some x → fixMay x = true) ∧ ρ 0 = v ∧ ρ 3 = .int .i64 (k : Nat)) ⟨0, Nat.zero_le _, rfl, rfl, by intro j x hj; omega, rfl, rfl⟩ ?_
  rintro _ ρ h ⟨k, hk, rfl, rfl, hall, h0, h3⟩
  refine goW ?_
  refine cond_go (fun hb => ?_) (fun hb => ?_)
  · have hk' : k < xs.length := by simpa using hb
    clear hb
    obtain ⟨x, hxk⟩ : ∃ x, xs[k]? = some x := ⟨xs[k], by simp [hk']⟩
    obtain ⟨b, o, cs, hi, rfl, _, hlo, _⟩ := hx.get T27 rfl T3 rfl hxk
    have ho := loadV_one T3 rfl hlo
    have hw := wrap_succ (n := k) (by omega)
    have c1 := refFixMay_ h x
    obtain ⟨r, hr⟩ : ∃ r, fixMay x = r := ⟨_, rfl⟩
    rw [hr] at c1
    cases r
    · clear hall
      refine goW ?_
      refine l_callG c1 ?_
      refine goW ?_
      refine cond_go (fun hb => ?_) (fun hb => ?_)
      · refine goW ?_
        refine end_ret (by simp only [resRf, resRs, resR]; first | done | rfl) ⟨?_, by first | exact List.prefix_refl _ | exact List.prefix_append _ _ | assumption | (refine List.IsPrefix.trans (by assumption) (List.prefix_append _ _)) | (simp only [List.append_assoc, List.cons_append, List.nil_append, List.set_cons_zero, List.set_cons_succ]; exact ⟨_, by simp only [List.append_assoc, List.cons_append, List.nil_append]; rfl⟩)⟩
        have : vecMay xs = false := by
          unfold vecMay
          rw [Bool.and_eq_false_iff]
          right
          rw [List.all_eq_false]
          exact ⟨x, List.mem_iff_getElem?.2 ⟨k, hxk⟩, by simp [hr]⟩
        rw [this]
        simp [put_app, put_none]
      · cases hb
    · have hall' := hall
      clear hall
      refine goW ?_
      refine l_callG c1 ?_
      refine goW ?_
      refine cond_go (fun hb => ?_) (fun hb => ?_)
      · cases hb
      · refine goW ?_
        refine ⟨xs.length - (k + 1), by omega, k + 1, hk', rfl, rfl, fun j y hj hy => ?_, ?_⟩
        · by_cases hjk : j = k
          · subst hjk; rw [hxk] at hy; cases hy; exact hr
          · exact hall' j y (by omega) hy
        · simp [put_app, put_none, *]
  · have hk' : k = xs.length := by have : ¬ k < xs.length := by simpa using hb
                                   omega
    subst hk'
    have ha : xs.all (fun x => fixMay x) = true := List.all_eq_true.2 fun x hx => by
      obtain ⟨j, hj⟩ := List.mem_iff_getElem?.1 hx
      exact hall j x (List.getElem?_eq_some_iff.1 hj).1 hj
    clear hall hb
    refine goW ?_
    refine end_ret (by simp only [resRf, resRs, resR]; first | done | rfl) ⟨?_, by first | exact List.prefix_refl _ | exact List.prefix_append _ _ | assumption | (refine List.IsPrefix.trans (by assumption) (List.prefix_append _ _)) | (simp only [List.append_assoc, List.cons_append, List.nil_append, List.set_cons_zero, List.set_cons_succ]; exact ⟨_, by simp only [List.append_assoc, List.cons_append, List.nil_append]; rfl⟩)⟩
    have hc : decide ((xs.length : Int) ≤ 16) = decide (xs.length ≤ 16) := by apply Bool.eq_iff_iff.2; simp; omega
    simp only [put_app, put_none, vecMay, ha, Bool.and_true, ← hc]
    rfl

theorem refDot_ (H : Heap) (u v : V) (xs ys : List Int) (hx : Sl 1 intC H u xs) (hy : Sl 1 intC H v ys) (hl : xs.length = ys.length) (mx : vecMay xs = true) (my : vecMay ys = true) : Call Try.prog 125 [u, v] H (.tup [.int .i64 (dot xs ys), .int .i64 0]) H := by
  refine call_plain fit mixed Try.func125 rfl rfl rfl (by kernel_rfl) rfl ?_
  have hsmall : xs.length ≤ 16 := by simp [vecMay] at mx; exact mx.1
  have hlen := hx.len T27 rfl
  have hlen2 := hy.len T27 rfl
  rw [← hl] at hlen2
  have c1 := refVecMay_ H u xs hx (by omega)
  have c2 := refVecMay_ H v ys hy (by omega)
  rw [mx] at c1
  rw [my] at c2
  replace hl := hl.symm
  clear mx my
  refine goW ?_
  refine l_callG c1 ?_
  refine goW ?_
  refine l_callG c2 ?_
  refine goW ?_
  refine cond_go (fun hb => ?_) (fun hb => ?_)
  · simp at hb
  clear hb c1 c2
  refine goW ?_
  refine wq_loop (fun c ρ h => ∃ k, k ≤ xs.length ∧ c = xs.length - k ∧ h = H ∧ ρ 0 = u ∧ ρ 1 = v ∧ ρ 7 = .int .i64 (k : Nat) ∧ ρ 6 = .int .i64 (dot (xs.take k) (ys.take k))) ⟨0, Nat.zero_le _, rfl, rfl, rfl, rfl, rfl, rfl⟩ ?_
  rintro _ ρ h ⟨k, hk, rfl, rfl, h0, h1, h7, h6⟩
  refine goW ?_
  refine cond_go (fun hb => ?_) (fun hb => ?_)
  · have hk' : k < xs.length := by simpa using hb
    clear hb
    obtain ⟨x, hxk⟩ : ∃ x, xs[k]? = some x := ⟨xs[k], by simp [hk']⟩
    obtain ⟨y, hyk⟩ : ∃ x, ys[k]? = some x := ⟨ys[k]'(by omega), by simp⟩
    obtain ⟨b, o, cs, hi, rfl, _, hlo, _⟩ := hx.get T27 rfl T3 rfl hxk
    obtain ⟨b2, o2, cs, hi2, rfl, _, hlo2, _⟩ := hy.get T27 rfl T3 rfl hyk
    have ho := loadV_one T3 rfl hlo
    have ho2 := loadV_one T3 rfl hlo2
    have hw := wrap_succ (n := k) (by omega)
    have hs : dot (xs.take (k + 1)) (ys.take (k + 1)) = _ := dotFrom_succ hxk hyk
    have c1 := refTimes_ h x y
    have c2 := refPlus_ h (dot (xs.take k) (ys.take k)) (times x y)
    rw [← hs] at c2
    clear hs
    refine goW ?_
    refine d_call0G c1 ?_
    refine goW ?_
    refine d_call0G c2 ?_
    refine goW ?_
    refine ⟨xs.length - (k + 1), by omega, k + 1, hk', rfl, rfl, ?_⟩
    simp [put_app, put_none, *]
  · have hk' : k = xs.length := by have : ¬ k < xs.length := by simpa using hb
                                   omega
    subst hk'
    rw [List.take_of_length_le (Nat.le_refl _), List.take_of_length_le (by omega)] at h6
    clear hb
    refine goW ?_
    refine end_finG ?_; simp [put_app, put_none, *]
end Go.Proofs.Ytekifjeckbndiaa.VM

/- Layers 5 and 6: do weights and inputs fit; a net's units. -/
namespace Go.Proofs.Ytekifjeckbndiaa.VM
open Go
set_option linter.unusedVariables false
set_option linter.unusedSimpArgs false
attribute [local irreducible] wq wqL wqD wqE wqO Th Bk EndR
set_option maxHeartbeats 8000000

theorem shape_nat {i h : Int} (hs : shapeMay i h = true) : ∃ i' h' : Nat, i = i' ∧ h = h' ∧ 1 ≤ i' ∧ i' ≤ 3 ∧ 1 ≤ h' ∧ h' ≤ 3 := by
  simp [shapeMay, within] at hs
  exact ⟨i.toNat, h.toNat, by omega, by omega, by omega, by omega, by omega, by omega⟩
theorem size_cast (i h : Nat) : ((netSize i h : Nat) : Int) = (h : Int) * ((i : Int) + 1) + h + 1 := by unfold netSize; push_cast; rfl
theorem beq_cast (a b : Nat) : ((a : Int) == (b : Int)) = decide ((a : Int) = (b : Int)) := by
  apply Bool.eq_iff_iff.2; simp

theorem shapeFits_ (H : Heap) (i h : Int) (w : V) (ws : List Int) (hw : Sl 1 intC H w ws) (hl : ws.length ≤ 2 ^ 47) : Call Try.prog 93 [.agg [.int .i64 i, .int .i64 h], w] H (.bool (fits i h ws)) H := by
  refine call_plain fit mixed Try.func93 rfl rfl rfl (by kernel_rfl) rfl ?_
  have hlen := hw.len T27 rfl
  have hw' := hw.mono (List.prefix_append H [.row [.int .i64 i, .int .i64 h] true])
  have c1 := shapeMay_ (H ++ [.row [.int .i64 i, .int .i64 h] true]) i h
  have c3 := vecMay_ (H ++ [.row [.int .i64 i, .int .i64 h] true]) w ws hw' hl
  cases hs : shapeMay i h
  · rw [hs] at c1
    have hfin : fits i h ws = false := by simp [fits, hs]
    refine goW ?_
    refine l_callG c1 ?_
    refine goW ?_
    refine end_finG ?_; simp [put_app, put_none, *]
  · rw [hs] at c1
    obtain ⟨i, h, rfl, rfl, hi1, hi2, hh1, hh2⟩ := shape_nat hs
    have c2 := shapeMany_ (H ++ [.row [.int .i64 i, .int .i64 h] true]) i h hi2 hh2
    have hfin : fits i h ws = (vecMay ws && ((ws.length : Int) == ((netSize i h : Nat) : Int))) := by rw [fits, hs, Bool.true_and, beq_cast, size_cast]
    clear hi1 hi2 hh1 hh2 hl hs
    refine goW ?_
    refine l_callG c1 ?_
    refine goW ?_
    refine l_callG c2 ?_
    refine goW ?_
    first | refine l_partG (fun hb => ?_) (fun hb => ?_) | refine d_partG (fun hb => ?_) (fun hb => ?_)
    · refine goW ?_
      refine l_callG c3 ?_
      refine goW ?_
      refine end_ret (by simp only [resRf, resRs, resR]; first | done | rfl) ⟨?_, by first | exact List.prefix_refl _ | exact List.prefix_append _ _ | assumption | (refine List.IsPrefix.trans (by assumption) (List.prefix_append _ _)) | (simp only [List.append_assoc, List.cons_append, List.nil_append, List.set_cons_zero, List.set_cons_succ]; exact ⟨_, by simp only [List.append_assoc, List.cons_append, List.nil_append]; rfl⟩)⟩
      simp [put_app, put_none, hfin, hb]
    · refine goW ?_
      refine end_ret (by simp only [resRf, resRs, resR]; first | done | rfl) ⟨?_, by first | exact List.prefix_refl _ | exact List.prefix_append _ _ | assumption | (refine List.IsPrefix.trans (by assumption) (List.prefix_append _ _)) | (simp only [List.append_assoc, List.cons_append, List.nil_append, List.set_cons_zero, List.set_cons_succ]; exact ⟨_, by simp only [List.append_assoc, List.cons_append, List.nil_append]; rfl⟩)⟩
      simp [put_app, put_none, hfin, hb]

theorem inputs_ (H : Heap) (i h : Int) (x : V) (xs : List Int) (hx : Sl 1 intC H x xs) (hl : xs.length ≤ 2 ^ 47) : Call Try.prog 110 [.agg [.int .i64 i, .int .i64 h], x] H (.bool (feeds i xs)) H := by
  refine call_plain fit mixed Try.func110 rfl rfl rfl (by kernel_rfl) rfl ?_
  have hlen := hx.len T27 rfl
  have c3 := vecMay_ (H ++ [.row [.int .i64 i, .int .i64 h] true]) x xs (hx.mono (List.prefix_append H [.row [.int .i64 i, .int .i64 h] true])) hl
  have hfin : feeds i xs = (((xs.length : Int) == i) && vecMay xs) := by rw [feeds]; rfl
  clear hl
  refine goW ?_
  first | refine l_partG (fun hb => ?_) (fun hb => ?_) | refine d_partG (fun hb => ?_) (fun hb => ?_)
  · refine goW ?_
    refine l_callG c3 ?_
    refine goW ?_
    refine end_ret (by simp only [resRf, resRs, resR]; first | done | rfl) ⟨?_, by first | exact List.prefix_refl _ | exact List.prefix_append _ _ | assumption | (refine List.IsPrefix.trans (by assumption) (List.prefix_append _ _)) | (simp only [List.append_assoc, List.cons_append, List.nil_append, List.set_cons_zero, List.set_cons_succ]; exact ⟨_, by simp only [List.append_assoc, List.cons_append, List.nil_append]; rfl⟩)⟩
    simp [put_app, put_none, hfin, hb]
  · refine goW ?_
    refine end_ret (by simp only [resRf, resRs, resR]; first | done | rfl) ⟨?_, by first | exact List.prefix_refl _ | exact List.prefix_append _ _ | assumption | (refine List.IsPrefix.trans (by assumption) (List.prefix_append _ _)) | (simp only [List.append_assoc, List.cons_append, List.nil_append, List.set_cons_zero, List.set_cons_succ]; exact ⟨_, by simp only [List.append_assoc, List.cons_append, List.nil_append]; rfl⟩)⟩
    simp [put_app, put_none, hfin, hb]

theorem refFits_ (H : Heap) (i h : Int) (w : V) (ws : List Int) (hw : Sl 1 intC H w ws) (hl : ws.length ≤ 2 ^ 47) : Call Try.prog 29 [.agg [.int .i64 i, .int .i64 h], w] H (.bool (fits i h ws)) H := by
  refine call_plain fit mixed Try.func29 rfl rfl rfl (by kernel_rfl) rfl ?_
  have hlen := hw.len T27 rfl
  have hw' := hw.mono (List.prefix_append H [.row [.int .i64 i, .int .i64 h] true])
  have c1 := refShapeMay_ (H ++ [.row [.int .i64 i, .int .i64 h] true]) i h
  have c3 := refVecMay_ (H ++ [.row [.int .i64 i, .int .i64 h] true]) w ws hw' hl
  cases hs : shapeMay i h
  · rw [hs] at c1
    have hfin : fits i h ws = false := by simp [fits, hs]
    refine goW ?_
    refine l_callG c1 ?_
    refine goW ?_
    refine end_finG ?_; simp [put_app, put_none, *]
  · rw [hs] at c1
    obtain ⟨i, h, rfl, rfl, hi1, hi2, hh1, hh2⟩ := shape_nat hs
    have c2 := refsize_ (H ++ [.row [.int .i64 i, .int .i64 h] true]) i h hi2 hh2
    have hfin : fits i h ws = (vecMay ws && ((ws.length : Int) == ((netSize i h : Nat) : Int))) := by rw [fits, hs, Bool.true_and, beq_cast, size_cast]
    clear hi1 hi2 hh1 hh2 hl hs
    refine goW ?_
    refine l_callG c1 ?_
    refine goW ?_
    refine l_callG c3 ?_
    refine goW ?_
    first | refine l_partG (fun hb => ?_) (fun hb => ?_) | refine d_partG (fun hb => ?_) (fun hb => ?_)
    · refine goW ?_
      refine l_callG c2 ?_
      refine goW ?_
      refine end_ret (by simp only [resRf, resRs, resR]; first | done | rfl) ⟨?_, by first | exact List.prefix_refl _ | exact List.prefix_append _ _ | assumption | (refine List.IsPrefix.trans (by assumption) (List.prefix_append _ _)) | (simp only [List.append_assoc, List.cons_append, List.nil_append, List.set_cons_zero, List.set_cons_succ]; exact ⟨_, by simp only [List.append_assoc, List.cons_append, List.nil_append]; rfl⟩)⟩
      simp [put_app, put_none, hfin, hb]
    · refine goW ?_
      refine end_ret (by simp only [resRf, resRs, resR]; first | done | rfl) ⟨?_, by first | exact List.prefix_refl _ | exact List.prefix_append _ _ | assumption | (refine List.IsPrefix.trans (by assumption) (List.prefix_append _ _)) | (simp only [List.append_assoc, List.cons_append, List.nil_append, List.set_cons_zero, List.set_cons_succ]; exact ⟨_, by simp only [List.append_assoc, List.cons_append, List.nil_append]; rfl⟩)⟩
      simp [put_app, put_none, hfin, hb]

theorem refFeeds_ (H : Heap) (i h : Int) (x : V) (xs : List Int) (hx : Sl 1 intC H x xs) (hl : xs.length ≤ 2 ^ 47) : Call Try.prog 128 [.agg [.int .i64 i, .int .i64 h], x] H (.bool (feeds i xs)) H := by
  refine call_plain fit mixed Try.func128 rfl rfl rfl (by kernel_rfl) rfl ?_
  have hlen := hx.len T27 rfl
  have c3 := refVecMay_ (H ++ [.row [.int .i64 i, .int .i64 h] true]) x xs (hx.mono (List.prefix_append H [.row [.int .i64 i, .int .i64 h] true])) hl
  have hfin : feeds i xs = (((xs.length : Int) == i) && vecMay xs) := by rw [feeds]; rfl
  clear hl
  refine goW ?_
  first | refine l_partG (fun hb => ?_) (fun hb => ?_) | refine d_partG (fun hb => ?_) (fun hb => ?_)
  · refine goW ?_
    refine l_callG c3 ?_
    refine goW ?_
    refine end_ret (by simp only [resRf, resRs, resR]; first | done | rfl) ⟨?_, by first | exact List.prefix_refl _ | exact List.prefix_append _ _ | assumption | (refine List.IsPrefix.trans (by assumption) (List.prefix_append _ _)) | (simp only [List.append_assoc, List.cons_append, List.nil_append, List.set_cons_zero, List.set_cons_succ]; exact ⟨_, by simp only [List.append_assoc, List.cons_append, List.nil_append]; rfl⟩)⟩
    simp [put_app, put_none, hfin, hb]
  · refine goW ?_
    refine end_ret (by simp only [resRf, resRs, resR]; first | done | rfl) ⟨?_, by first | exact List.prefix_refl _ | exact List.prefix_append _ _ | assumption | (refine List.IsPrefix.trans (by assumption) (List.prefix_append _ _)) | (simp only [List.append_assoc, List.cons_append, List.nil_append, List.set_cons_zero, List.set_cons_succ]; exact ⟨_, by simp only [List.append_assoc, List.cons_append, List.nil_append]; rfl⟩)⟩
    simp [put_app, put_none, hfin, hb]

/-- a net lies there -/
structure NetAt (H : Heap) (b : Nat) (i h : Int) (w : V) : Prop where
  a0 : H.loadN b 0 1 = some [.int .i64 i]
  a1 : H.loadN b 1 1 = some [.int .i64 h]
  a2 : H.loadN b 2 1 = some [w]
theorem NetAt.mono {H H' : Heap} {b : Nat} {i h : Int} {w : V} (hp : H <+: H') (n : NetAt H b i h w) : NetAt H' b i h w := ⟨loadN_pre hp n.a0, loadN_pre hp n.a1, loadN_pre hp n.a2⟩
theorem netAt_row {H l : Heap} {i h : Int} {w : V} : NetAt (H ++ (.row [.int .i64 i, .int .i64 h, w] true :: l)) H.length i h w := by
  refine ⟨?_, ?_, ?_⟩ <;> (rw [loadN_app0]; rfl)

end Go.Proofs.Ytekifjeckbndiaa.VM

/- The statements' helpers: numbers that are copied, lent, compared, written over. -/
namespace Go.Proofs.Ytekifjeckbndiaa.VM
open Go
set_option linter.unusedVariables false
set_option linter.unusedSimpArgs false
attribute [local irreducible] wq wqL wqD wqE wqO Th Bk EndR
set_option maxHeartbeats 8000000

theorem num_ (H : Heap) (n : Int) : Call Try.prog 21 [.int .i64 n] H (.int .i64 n) H := by
  refine call_plain fit mixed Try.func21 rfl rfl rfl (by kernel_rfl) rfl ?_
  refine goW ?_
  refine end_finG ?_; simp [put_app, put_none, *]

theorem int_news {H : Heap} {w : V} {ys : List Int} (h : Sl 1 intC H w ys) : ∃ news, newsOf T (T 3).get! 27 w H = some (ys.length, news) ∧ Cells 1 intC news ys := h.news T27 rfl (ie := (T 3).get!) rfl

theorem and_mask (x : Int) (m : Nat) (hm : m < 2 ^ 62) (hmb : (BitVec.ofInt IntKind.i64.bits (m : Int)).toNat = m) : ∃ y : Int, IntKind.i64.wrap ((BitVec.ofInt IntKind.i64.bits x &&& BitVec.ofInt IntKind.i64.bits (m : Int)).toNat : Int) = y ∧ 0 ≤ y ∧ y ≤ m := by
  have h : (BitVec.ofInt IntKind.i64.bits x &&& BitVec.ofInt IntKind.i64.bits (m : Int)).toNat ≤ m := by
    rw [BitVec.toNat_and]
    exact Nat.le_trans Nat.and_le_right (by rw [hmb]; exact Nat.le_refl _)
  exact ⟨((BitVec.ofInt IntKind.i64.bits x &&& BitVec.ofInt IntKind.i64.bits (m : Int)).toNat : Int), wrap_nat (by omega), by omega, by omega⟩
theorem int_copy (H : Heap) (w : V) (ys : List Int) (h : Sl 1 intC H w ys) (hl : ys.length * 8 ≤ 2 ^ 47) :
    ∃ news v H', newsOf T (T 3).get! 27 w (H ++ [.row [] true]) = some (ys.length, news) ∧ appendV (T 3).get! (.slc H.length 0 0 0 true 1) ys.length news (H ++ [.row [] true]) = some (v, H') ∧ Mine 1 intC H H' v ys ∧ ∃ b, v.blk = some b ∧ H.length ≤ b := by
  obtain ⟨news, hn, hc⟩ := int_news (h.mono (List.prefix_append H [.row [] true]))
  obtain ⟨u, b, H', ha, ho, hf, hb⟩ := own_append (ie := (T 3).get!) (own_make (t := true) H Cells.nil) rfl hc ⟨by show (0 + ys.length) * 8 ≤ _; omega, by show 0 + ys.length ≤ _; omega⟩
  have hb' : H.length ≤ b := by simp at hb; omega
  refine ⟨news, u, H', hn, ha, ⟨hf.pre (List.prefix_append _ _) (Nat.le_refl _), .inr ⟨b, hb', ho⟩⟩, b, ?_, hb'⟩
  obtain ⟨cap, t, cs, rfl, _⟩ := ho
  rfl

theorem take_step {α : Type} {xs ys : List α} {k : Nat} {x y : α} (h : xs.take k = ys.take k) (hx : xs[k]? = some x) (hy : ys[k]? = some y) (e : x = y) : xs.take (k + 1) = ys.take (k + 1) := by
  rw [List.take_add_one, List.take_add_one, h, hx, hy, e]

theorem sameInts_ (H : Heap) (u v : V) (xs ys : List Int) (hx : Sl 1 intC H u xs) (hy : Sl 1 intC H v ys) (lx : xs.length ≤ 2 ^ 47) : Call Try.prog 30 [u, v] H (.bool (decide (xs = ys))) H := by
  refine call_plain fit mixed Try.func30 rfl rfl rfl (by kernel_rfl) rfl ?_
  have hlx := hx.len T27 rfl
  have hly := hy.len T27 rfl
  refine goW ?_
  refine cond_go (fun hb => ?_) (fun hb => ?_)
  · refine goW ?_
    refine end_finG ?_; simp [put_app, put_none, *]
    intro e
    subst e
    simp at hb
  · have hl : xs.length = ys.length := by simp at hb; omega
    refine goW ?_
    refine wq_loop (fun c ρ h => ∃ k, k ≤ xs.length ∧ c = xs.length - k ∧ h = H ∧ xs.take k = ys.take k ∧ ρ 0 = u ∧ ρ 1 = v ∧ ρ 5 = .int .i64 (k : Nat)) ⟨0, Nat.zero_le _, rfl, rfl, by simp, rfl, rfl, rfl⟩ ?_
    rintro _ ρ h ⟨k, hk, rfl, rfl, hsame, h0, h1, h5⟩
    refine goW ?_
    refine cond_go (fun hb => ?_) (fun hb => ?_)
    · have hk' : k < xs.length := by simp at hb; omega
      obtain ⟨x, hxk⟩ : ∃ e, xs[k]? = some e := ⟨xs[k], by simp [hk']⟩
      obtain ⟨y, hyk⟩ : ∃ e, ys[k]? = some e := ⟨ys[k]'(by omega), by simp⟩
      obtain ⟨b, o, cs, hi, rfl, _, hlo, _⟩ := hx.get T27 rfl T3 rfl hxk
      obtain ⟨b2, o2, cs, hi2, rfl, _, hlo2, _⟩ := hy.get T27 rfl T3 rfl hyk
      have ho := loadV_one T3 rfl hlo
      have ho2 := loadV_one T3 rfl hlo2
      have hw := wrap_succ (n := k) (by omega)
      refine goW ?_
      refine cond_go (fun hc => ?_) (fun hc => ?_)
      all_goals simp at hc
      · refine goW ?_
        refine end_finG ?_; simp [put_app, put_none, *]
        intro e
        subst e
        rw [hxk] at hyk
        exact hc (Option.some.inj hyk)
      · refine goW ?_
        refine ⟨xs.length - (k + 1), by omega, k + 1, hk', rfl, rfl, take_step hsame hxk hyk hc, ?_⟩
        simp [put_app, put_none, *]
    · have hk' : k = xs.length := by simp at hb; omega
      subst hk'
      refine goW ?_
      refine end_finG ?_; simp [put_app, put_none, *]
      rw [List.take_of_length_le (Nat.le_refl _), List.take_of_length_le (by omega)] at hsame
      exact hsame

theorem spoilInts_ (B H : Heap) (v : V) (xs : List Int) (hm : Mine 1 intC B H v xs) (lx : xs.length ≤ 2 ^ 47) : ∃ H', Call Try.prog 61 [v] H (.tup []) H' ∧ B <+: H' := by
  suffices h : ∃ u H', (u = .tup [] ∧ B <+: H') ∧ Call Try.prog 61 [v] H u H' by
    obtain ⟨_, H', ⟨rfl, h1⟩, h2⟩ := h
    exact ⟨H', h2, h1⟩
  refine call_wq fit mixed Try.func61 rfl rfl rfl (by kernel_rfl) ?_
  obtain ⟨n, hn⟩ : ∃ n, xs.length = n := ⟨_, rfl⟩
  refine goW ?_
  refine wq_loop (fun c ρ hp => ∃ k ys, k ≤ n ∧ c = n - k ∧ ys.length = n ∧ Mine 1 intC B hp v ys ∧ ρ 0 = v ∧ ρ 2 = .int .i64 (k : Nat)) ⟨0, xs, Nat.zero_le _, rfl, hn, hm, rfl, rfl⟩ ?_
  rintro _ ρ hp ⟨k, ys, hk, rfl, hys, hm, h0, h2⟩
  have hlen := hm.sl.len T27 rfl
  rw [hys] at hlen
  refine goW ?_
  refine cond_go (fun hb => ?_) (fun hb => ?_)
  · have hk' : k < n := by simpa using hb
    clear hb
    obtain ⟨x, hxk⟩ : ∃ e, ys[k]? = some e := ⟨ys[k]'(by omega), by simp⟩
    obtain ⟨b, o, cs, hi, rfl, _, hlo, _⟩ := hm.sl.get T27 rfl T3 rfl hxk
    have ho := loadV_one T3 rfl hlo
    obtain ⟨b2, o2, h1, h2'⟩ := hm.store T27 rfl T3 rfl (k := k) (by omega)
    rw [hi] at h1
    cases h1
    obtain ⟨H', hst, hm2⟩ := h2' (.int .i64 (IntKind.i64.wrap (-9 - x))) _ rfl rfl rfl
    have hw := wrap_succ (n := k) (by omega)
    clear hxk hlo hm h2'
    refine goW ?_
    refine ⟨n - (k + 1), by omega, k + 1, _, hk', rfl, by simpa using hys, hm2, ?_⟩
    simp [put_app, put_none, *]
  · clear hb
    have hp' := hm.1
    refine goW ?_
    refine end_normal (by simp only [resRf, resRs, resR]; first | done | rfl) ⟨rfl, hp'⟩
end Go.Proofs.Ytekifjeckbndiaa.VM
