/- Joined texts: VmO, VmP, VmW, VmX, VmY, VmZ, VmZB, MemA, MemB, MemC, Num, VmQ. -/
import Derived.Test.YtncjbjlmgnjhiaaGreatJC2
import Derived.SizedLaws
import Derived.ChangeArms
import Derived.JoinedCond
import Derived.JoinedOf
import Derived.Carry
import Derived.Below
import Derived.OpenShut
import Derived.ProofKit
import Derived.ScopeJumps
import Derived.Laws.StructEq
namespace Go.Proofs.YtncjbjlmgnjhiaaGreat.VM
open Go
set_option linter.unusedVariables false
set_option linter.unusedSimpArgs false
variable {P : Program} {T : Tab}
inductive Rd (T : Tab) (K : Heap) {D : Type} : Nat → List V → DataW D → Prop
 | bool {t i b} (h : T t = some i) (hk : i.k = .bool) : Rd T K t [.bool b] (.lit (.bool b))
 | int {t i k n} (h : T t = some i) (hk : i.k = .int k) (lo : k.min ≤ n) (hi : n ≤ k.max) : Rd T K t [.int k n] (.lit (.int k n))
 | str {t i s} (h : T t = some i) (hk : i.k = .str) (hs : s.size ≤ reachBytes) : Rd T K t [.str s] (.lit (.string s.data.toList))
 | AN {t i e} (h : T t = some i) (hk : i.k = .slice e) : Rd T K t [.AN] .nil
 | slc {t i e ie b len cap cs elems spare} (h : T t = some i) (hk : i.k = .slice e) (he : T e = some ie) (hl : elems.length = len) (hc : elems.length + spare.length = cap) (hb : cap * ie.bytes ≤ reachBytes)
   (hr : K[b]? = some (.row cs false)) (hcs : cs.length = cap * ie.size) (hd : ∀ (j : Nat) x, (elems ++ spare)[j]? = some x → Rd T K e ((cs.drop (j * ie.size)).take ie.size) x) :
   Rd T K t [.slc b 0 len cap true ie.size] (.slice elems spare)
 | strct {t i fs cs parts} (h : T t = some i) (hk : i.k = .strct fs) (hl : cs.length = i.size) (hp : parts.length = fs.length)
   (hd : ∀ (j : Nat) f fi x, fs[j]? = some f → T f.1 = some fi → parts[j]? = some x → Rd T K f.1 ((cs.drop f.2).take fi.size) x) : Rd T K t cs (.agg parts)
theorem Rd.mono {D : Type} {K K' : Heap} (hp : K <+: K') {t : Nat} {cs : List V} {d : DataW D} (h : Rd T K t cs d) : Rd T K' t cs d := by
 induction h with
 | bool h hk => exact .bool h hk
 | int h hk lo hi => exact .int h hk lo hi
 | str h hk hs => exact .str h hk hs
 | AN h hk => exact .AN h hk
 | slc h hk he hl hc hb hr hcs _ ih =>
  refine .slc h hk he hl hc hb ?_ hcs ih
  obtain ⟨l, rfl⟩ := hp
  rw [List.getElem?_append_left (List.getElem?_eq_some_iff.1 hr).1]
  exact hr
 | strct h hk hl hp' _ ih => exact .strct h hk hl hp' ih
def Ro (K : Heap) : Prop := ∀ (b : Nat) k, K[b]? = some k → k.own = false
theorem Ro.snoc {K : Heap} (h : Ro K) (cs : List V) : Ro (K ++ [.row cs false]) := fun b k hk => by
 rcases ER hk with ⟨_, rfl⟩ | ⟨_, hk⟩
 ·rfl
 ·exact h b k hk
theorem Zj {μ : Mu} {K : Heap} {w : World} (s : Sim μ K w) (ro : Ro K) {y : Loc} {cs : List V} (hB : y.B < w.heap.size) (hl : cs.length ≤ y.n) (hext : ∀ i, i < y.n → ∃ u, w.cell? ⟨y.B, y.o + i, none⟩ = some u)
  (hcs : ∀ (i : Nat) v, cs[i]? = some v → v.one = true ∧ ∃ cv, w.cell? ⟨y.B, y.o + i, none⟩ = some cv ∧ VR μ v cv) : Sim (μ.put K.length y) (K ++ [.row cs false]) w := by
 have hle : Mu.Le μ (μ.put K.length y) := Mu.KV _ s.Fl
 have split : ∀ b x, μ.put K.length y b = some x → (b = K.length ∧ x = y) ∨ (b ≠ K.length ∧ μ b = some x) := fun b x hx => by
  by_cases hb : b = K.length
  ·subst hb; rw [Mu.De] at hx; exact .inl ⟨rfl, (Option.some.inj hx).symm⟩
  ·rw [Mu.Kc _ hb] at hx; exact .inr ⟨hb, hx⟩
 have rro := ro.snoc cs
 refine ⟨fun b x hx => ?_, fun b x ds wr hx hb i v hi => ?_, fun b x ds wr hx hb => ?_, fun b x ds hx hb i => ?_, fun b x k hx hb ho => ?_, fun b x es hx hb => ?_⟩
 ·rcases split b x hx with ⟨rfl, rfl⟩ | ⟨_, hx⟩
  ·exact ⟨by simp, hB⟩
  ·have := s.lt b x hx; exact ⟨by simp; omega, this.2⟩
 ·rcases split b x hx with ⟨rfl, rfl⟩ | ⟨hne, hx⟩
  ·simp at hb
   obtain ⟨rfl, rfl⟩ := hb
   obtain ⟨h1, cv, h2, h3⟩ := hcs i v hi
   exact ⟨h1, cv, h2, h3.mono hle⟩
  ·rcases ER hb with ⟨e, _⟩ | ⟨_, hb⟩
   ·exact absurd e hne
   ·obtain ⟨h1, cv, h2, h3⟩ := s.row b x ds wr hx hb i v hi
    exact ⟨h1, cv, h2, h3.mono hle⟩
 ·rcases split b x hx with ⟨rfl, rfl⟩ | ⟨hne, hx⟩
  ·simp at hb
   obtain ⟨rfl, rfl⟩ := hb
   exact ⟨hl, hext⟩
  ·rcases ER hb with ⟨e, _⟩ | ⟨_, hb⟩
   ·exact absurd e hne
   ·exact s.ext b x ds wr hx hb
 ·have := rro b _ hb; simp [Blk.own] at this
 ·have := rro b _ hb; rw [this] at ho; cases ho
 ·have := rro b _ hb; simp [Blk.own] at this
theorem Xh {μ : Mu} {K : Heap} {w : World} (s : Sim μ K w) (ro : Ro K) : Sim μ (K ++ [.row [] false]) w := by
 have rro := ro.snoc []
 have back : ∀ {b x k}, μ b = some x → (K ++ [.row [] false])[b]? = some k → K[b]? = some k := fun {b x k} hx hb => by
  rcases ER hb with ⟨rfl, _⟩ | ⟨_, hb⟩
  ·rw [s.Fl] at hx; cases hx
  ·exact hb
 refine ⟨fun b x hx => ?_, fun b x ds wr hx hb => s.row b x ds wr hx (back hx hb), fun b x ds wr hx hb => s.ext b x ds wr hx (back hx hb), fun b x ds hx hb => s.free b x ds hx (back hx hb), fun b x k hx hb ho => ?_, fun b x es hx hb => s.mp b x es hx (back hx hb)⟩
 ·have := s.lt b x hx; exact ⟨by simp; omega, this.2⟩
 ·have := rro b _ hb; rw [this] at ho; cases ho
theorem mapM_some {α β : Type} {f : α → Option β} : ∀ {l : List α} {ys : List β}, l.mapM f = some ys → ys.length = l.length ∧ ∀ (i : Nat) x, l[i]? = some x → ∃ y, ys[i]? = some y ∧ f x = some y
 | [], ys, h => by simp at h; subst h; simp
 | a :: l, ys, h => by
  rw [List.mapM_cons] at h
  cases hf : f a with
  | none => rw [hf] at h; simp at h
  | some y =>
   rw [hf] at h
   cases hl : l.mapM f with
   | none => rw [hl] at h; simp at h
   | some zs =>
    rw [hl] at h
    simp at h
    subst h
    obtain ⟨h1, h2⟩ := mapM_some hl
    refine ⟨by simp [h1], fun i x hx => ?_⟩
    cases i with
    | zero => simp at hx; subst hx; exact ⟨y, by simp, hf⟩
    | succ i => simpa using h2 i x (by simpa using hx)
def tiles (T : Tab) : Nat → List (Nat × Nat) → Option Nat
 | o, [] => some o
 | o, (t, off) :: fs => match T t with
  | some i => if off = o then tiles T (o + i.size) fs else none
  | none => none
def readable (T : Tab) : Nat → Nat → Bool
 | 0, _ => false
 | n + 1, t => match T t with
  | some i => match i.k with
   | .bool | .int _ | .str => true
   | .slice e => readable T n e && (match T e with | some ie => decide (0 < ie.size) | none => false)
   | .strct fs => fs.all (fun f => readable T n f.1) && tiles T 0 fs == some i.size
   | _ => false
  | none => false
def aE (T : Tab) (w : World) {D : Type} (μ : Mu) (K : Heap) (t : Nat) (cs : List Value) (d : DataW D) (μ' : Mu) (K' : Heap) : Prop :=
 Sim μ' K' w ∧ Ro K' ∧ Mu.Le μ μ' ∧ K <+: K' ∧ ∃ vs, VRs μ' vs cs ∧ (∀ v ∈ vs, v.one = true) ∧ Rd T K' t vs d
theorem Om {D : Type} {w : World} : ∀ (L : List (Nat × List Value × DataW D)), (∀ x ∈ L, ∀ μ K, Sim μ K w → Ro K → ∃ μ' K', aE T w μ K x.1 x.2.1 x.2.2 μ' K') → ∀ μ K, Sim μ K w → Ro K →
  ∃ (μ' : Mu) (K' : Heap) (vss : List (List V)), Sim μ' K' w ∧ Ro K' ∧ Mu.Le μ μ' ∧ K <+: K' ∧ vss.length = L.length ∧ ∀ (j : Nat) x vs, L[j]? = some x → vss[j]? = some vs → VRs μ' vs x.2.1 ∧ (∀ v ∈ vs, v.one = true) ∧ Rd T K' x.1 vs x.2.2
 | [], _, μ, K, s, ro => ⟨μ, K, [], s, ro, Mu.Le.refl _, List.prefix_refl _, rfl, by simp⟩
 | x :: L, h, μ, K, s, ro => by
  obtain ⟨μ1, K1, s1, r1, l1, p1, vs, v1, v2, v3⟩ := h x (by simp) μ K s ro
  obtain ⟨μ2, K2, vss, s2, r2, l2, p2, g1, g2⟩ := Om L (fun y hy => h y (by simp [hy])) μ1 K1 s1 r1
  refine ⟨μ2, K2, vs :: vss, s2, r2, l1.trans l2, p1.trans p2, by simp [g1], fun j y us hy hu => ?_⟩
  cases j with
  | zero =>
   simp at hy hu
   subst hy; subst hu
   exact ⟨v1.mono l2, v2, v3.mono p2⟩
  | succ j => exact g2 j y us (by simpa using hy) (by simpa using hu)
theorem VRs.flatten {μ : Mu} : ∀ {vss : List (List V)} {wss : List (List Value)}, vss.length = wss.length → (∀ (j : Nat) vs ws, vss[j]? = some vs → wss[j]? = some ws → VRs μ vs ws) → VRs μ vss.flatten wss.flatten
 | [], [], _, _ => by simp [VRs]
 | vs :: vss, ws :: wss, hl, h => by
  simp only [List.flatten_cons]
  exact (h 0 vs ws rfl rfl).append (VRs.flatten (by simpa using hl) fun j a b ha hb => h (j + 1) a b (by simpa using ha) (by simpa using hb))
 | [], _ :: _, hl, _ => by simp at hl
 | _ :: _, [], hl, _ => by simp at hl
theorem Gh {α : Type} {n : Nat} : ∀ {l : List (List α)}, (∀ x ∈ l, x.length = n) → l.flatten.length = l.length * n
 | [], _ => by simp
 | x :: l, h => by
  simp only [List.flatten_cons, List.length_append, List.length_cons, h x (by simp), Gh (l := l) fun y hy => h y (by simp [hy])]
  rw [Nat.add_mul]; omega
theorem Ie {α : Type} {n : Nat} : ∀ {l : List (List α)}, (∀ x ∈ l, x.length = n) → ∀ {j : Nat} {x : List α}, l[j]? = some x → (l.flatten.drop (j * n)).take n = x
 | [], _, _, _, h => by simp at h
 | y :: l, h, 0, x, hx => by
  simp at hx; subst hx
  have := h y (by simp)
  simp only [List.flatten_cons, Nat.zero_mul, List.drop_zero]
  rw [List.take_append_of_le_length (by omega), List.take_of_length_le (by omega)]
 | y :: l, h, j + 1, x, hx => by
  have hy := h y (by simp)
  simp only [List.flatten_cons]
  rw [show (j + 1) * n = y.length + j * n by rw [hy, Nat.add_mul]; omega, ← List.drop_drop, List.drop_left]
  exact Ie (l := l) (fun z hz => h z (by simp [hz])) (by simpa using hx)
theorem PB : ∀ {fs : List (Nat × Nat)} {o e : Nat}, tiles T o fs = some e → o ≤ e
 | [], o, e, h => by simp only [tiles, Option.some.injEq] at h; omega
 | (t, off) :: fs, o, e, h => by
  simp only [tiles] at h
  split at h
  ·split at h
   ·have := PB h; omega
   ·cases h
  ·cases h
theorem Lk : ∀ {fs : List (Nat × Nat)} {o e : Nat}, tiles T o fs = some e → ∀ {j : Nat} {f : Nat × Nat} {i : TI}, fs[j]? = some f → T f.1 = some i → o ≤ f.2 ∧ f.2 + i.size ≤ e
 | [], o, e, _, j, f, i, hf, _ => by simp at hf
 | (t, off) :: fs, o, e, h, j, f, i, hf, hi => by
  simp only [tiles] at h
  split at h
  ·rename_i i0 hi0
   split at h
   ·rename_i ho
    cases j with
    | zero =>
     simp at hf; subst hf
     obtain rfl : i = i0 := Option.some.inj (hi.symm.trans hi0)
     have := PB h
     simp only; omega
    | succ j =>
     have := Lk h (by simpa using hf) hi
     omega
   ·cases h
  ·cases h
theorem Kk {α : Type} {cs : List α} : ∀ {fs : List (Nat × Nat)} {o e : Nat} {l : List (List α)}, tiles T o fs = some e → e ≤ cs.length → l.length = fs.length →
  (∀ (j : Nat) f i x, fs[j]? = some f → T f.1 = some i → l[j]? = some x → x = (cs.drop f.2).take i.size) → l.flatten = (cs.drop o).take (e - o)
 | [], o, e, l, h, _, hl, _ => by
  simp only [tiles, Option.some.injEq] at h
  subst h
  have : l = [] := by simpa using hl
  subst this; simp
 | (t, off) :: fs, o, e, [], h, _, hl, _ => by simp at hl
 | (t, off) :: fs, o, e, x :: l, h, he, hl, hx => by
  simp only [tiles] at h
  split at h
  ·rename_i i hi
   split at h
   ·rename_i ho
    subst ho
    have hle := PB h
    have h0 := hx 0 _ i x rfl hi rfl
    have ih := Kk (cs := cs) (l := l) h he (by simpa using hl) fun j f i' y hf hi' hy => hx (j + 1) f i' y (by simpa using hf) hi' (by simpa using hy)
    simp only at h0
    rw [List.flatten_cons, ih, h0]
    have e2 : e - off = i.size + (e - (off + i.size)) := by omega
    rw [e2, List.take_add, List.drop_drop]
   ·cases h
  ·cases h
theorem PC {α : Type} : ∀ {fs : List (Nat × Nat)} {o e : Nat} {l : List (List α)}, tiles T o fs = some e → l.length = fs.length →
  (∀ (j : Nat) f i x, fs[j]? = some f → T f.1 = some i → l[j]? = some x → x.length = i.size) → ∀ {j : Nat} {f : Nat × Nat} {i : TI} {x : List α}, fs[j]? = some f → T f.1 = some i → l[j]? = some x → (l.flatten.drop (f.2 - o)).take i.size = x
 | [], _, _, _, _, _, _, _, _, _, _, hf, _, _ => by simp at hf
 | (t, off) :: fs, o, e, [], _, hl, _, _, _, _, _, _, _, _ => by simp at hl
 | (t, off) :: fs, o, e, y :: l, h, hl, hx, j, f, i, x, hf, hi, hj => by
  simp only [tiles] at h
  split at h
  ·rename_i i0 hi0
   split at h
   ·rename_i ho
    subst ho
    have hy := hx 0 _ i0 y rfl hi0 rfl
    cases j with
    | zero =>
     simp at hf hj
     subst hf; subst hj
     obtain rfl : i = i0 := Option.some.inj (hi.symm.trans hi0)
     simp only [Nat.sub_self, List.drop_zero, List.flatten_cons]
     rw [List.take_append_of_le_length (by omega), List.take_of_length_le (by omega)]
    | succ j =>
     have hin := Lk h (by simpa using hf) hi
     have ih := PC (l := l) h (by simpa using hl) (fun j f i' y hf hi' hy => hx (j + 1) f i' y (by simpa using hf) hi' (by simpa using hy)) (by simpa using hf) hi (by simpa using hj)
     rw [List.flatten_cons, show f.2 - off = y.length + (f.2 - (off + i0.size)) by omega, ← List.drop_drop, List.drop_left]
     exact ih
   ·cases h
  ·cases h
theorem Gx {D : Type} {e : TypeId} {m : Nat} : ∀ {l : List (DataW D)} {j : Nat} {d : DataW D}, l[j]? = some d → m ∈ d.weights P e → m ∈ DataW.weightsAll P e l
 | [], _, _, h, _ => by simp at h
 | x :: l, 0, d, h, hm => by simp at h; subst h; simp only [DataW.weightsAll, List.mem_append]; exact .inl hm
 | x :: l, j + 1, d, h, hm => by simp only [DataW.weightsAll, List.mem_append]; exact .inr (Gx (by simpa using h) hm)
theorem Nj {w : World} {a : Addr} {n : Nat} {cs : List Value} (h : w.cells? 0 a n = some cs) : cs.length = n ∧ ∀ (i : Nat) v, cs[i]? = some v → w.cell? (a.add i) = some v := by
 unfold World.cells? at h
 simp only [Nat.zero_le, if_true] at h
 obtain ⟨h1, h2⟩ := mapM_some h
 simp only [List.length_range] at h1
 refine ⟨h1, fun i v hv => ?_⟩
 have hi : i < n := by rw [← h1]; exact (List.getElem?_eq_some_iff.1 hv).1
 obtain ⟨y, hy, hc⟩ := h2 i i (by simp [hi])
 rw [hv] at hy
 obtain rfl := Option.some.inj hy
 exact hc
theorem Ty {w : World} {a : Addr} {v : Value} (h : w.cell? a = some v) : a.spot = none ∧ a.block < w.heap.size := by
 unfold World.cell? at h
 split at h
 ·rename_i hb
  split at h
  ·cases h
  ·rename_i hs
   exact ⟨by simpa using hs, (Array.getElem?_eq_some_iff.1 hb).1⟩
 ·cases h
theorem add_add (a : Addr) (m n : Nat) : (a.add m).add n = a.add (m + n) := by
 unfold Addr.add
 by_cases hm : m = 0
 ·subst hm; simp
 ·by_cases hn : n = 0
  ·subst hn; simp [hm]
  ·rw [if_neg hm, if_neg hn, if_neg (by omega)]; simp [Nat.add_assoc]
theorem Xo (fit : Fits P T) {D : Type} {enc : TypeId × Value → D} {w : World} : ∀ (fuel n : Nat) (t : Nat) (cs : List Value) (d : DataW D) (ps : List MemPlace), readable T n t = true → DataW.trod enc P w 0 (fun _ => true) true fuel t cs = some (d, ps) →
  (∀ m ∈ d.weights P t, m ≤ reachBytes) → ∀ (μ : Mu) (K : Heap), Sim μ K w → Ro K → ∃ μ' K', aE T w μ K t cs d μ' K' := by
 intro fuel
 induction fuel with
 | zero => intro n t cs d ps _ h; simp [DataW.trod] at h
 | succ fuel ih =>
  intro n t cs d ps hr h hw μ K s ro
  cases n with
  | zero => cases hr
  | succ n =>
  unfold readable at hr
  split at hr
  ·rename_i i hT
   have hf := fit t i hT
   have hk := hf.kind
   split at hr
   ·rename_i hik
    rw [hik] at hk
    obtain ⟨b, rfl, hx⟩ := DataW.trod_bool hk h
    simp only [Prod.mk.injEq] at hx
    obtain ⟨rfl, rfl⟩ := hx
    exact ⟨μ, K, s, ro, Mu.Le.refl _, List.prefix_refl _, [.bool b], by simp [VRs, VR], by simp [V.one], .bool hT hik⟩
   ·rename_i k hik
    rw [hik] at hk
    obtain ⟨m, rfl, hx, hwf⟩ := DataW.trod_int hk h
    simp only [Prod.mk.injEq] at hx
    obtain ⟨rfl, rfl⟩ := hx
    have hwf' : k.min ≤ m ∧ m ≤ k.max := by simpa [Lit.wf] using hwf
    exact ⟨μ, K, s, ro, Mu.Le.refl _, List.prefix_refl _, [.int k m], by simp [VRs, VR], by simp [V.one], .int hT hik hwf'.1 hwf'.2⟩
   ·rename_i hik
    rw [hik] at hk
    obtain ⟨b, rfl, hx, hb⟩ := DataW.trod_string hk h
    simp only [Prod.mk.injEq] at hx
    obtain ⟨rfl, rfl⟩ := hx
    refine ⟨μ, K, s, ro, Mu.Le.refl _, List.prefix_refl _, [.str b], by simp [VRs, VR], by simp [V.one], .str hT hik ?_⟩
    have := hw b.size (by simp [DataW.weights])
    exact this
   ·rename_i e hik
    rw [hik] at hk
    simp only [Bool.and_eq_true] at hr
    obtain ⟨hr1, hr2⟩ := hr
    rcases DataW.trod_slice hk h with ⟨rfl, hx⟩ | ⟨a, len, cap, elems, rest, n', hn', rfl, hx, _, hlc, hcm, hlen, hel, hre, _⟩
    ·simp only [Prod.mk.injEq] at hx
     obtain ⟨rfl, rfl⟩ := hx
     exact ⟨μ, K, s, ro, Mu.Le.refl _, List.prefix_refl _, [.AN], by simp [VRs, VR], by simp [V.one], .AN hT hik⟩
    ·obtain rfl : fuel = n' := by omega
     simp only [Prod.mk.injEq] at hx
     obtain ⟨rfl, rfl⟩ := hx
     obtain ⟨hrl, hre⟩ := hre rfl
     split at hr2
     case h_2 => cases hr2
     rename_i ie hE
     simp only [decide_eq_true_eq] at hr2
     obtain ⟨q, z, hq, q1, q2, _⟩ := (fit e ie hE).info
     have hcells : P.cellsOf e = ie.size := by simp [Program.cellsOf, hq, q1]
     have hbytes : P.bytesOf e = ie.bytes := by simp [Program.bytesOf, hq, q2]
     have hwt : ∀ m ∈ ((elems.map (·.1)).length + (rest.map (·.1)).length) * P.bytesOf e :: (DataW.weightsAll P e (elems.map (·.1)) ++ DataW.weightsAll P e (rest.map (·.1))), m ≤ reachBytes := by
      have : P.underlying t = some (.slice e) := hk
      simpa [DataW.weights, this] using hw
     have hall : ∀ j, j < cap → (w.cells? 0 (a.add (j * ie.size)) ie.size).bind (DataW.trod enc P w 0 (fun _ => true) true fuel e) = (elems ++ rest)[j]? := fun j hj => by
      by_cases hjl : j < len
      ·rw [List.getElem?_append_left (by omega), ← hcells]; exact hel j hjl
      ·rw [List.getElem?_append_right (by omega), hlen, ← hcells]
       have := hre (j - len) (by omega)
       rwa [show len + (j - len) = j by omega] at this
     have hcap : (elems ++ rest).length = cap := by simp; omega
     -- the elements' cells
     obtain ⟨wss, hwl, hws⟩ : ∃ wss : List (List Value), wss.length = cap ∧ ∀ j ws, wss[j]? = some ws → w.cells? 0 (a.add (j * ie.size)) ie.size = some ws ∧ ∃ x, (elems ++ rest)[j]? = some x ∧ DataW.trod enc P w 0 (fun _ => true) true fuel e ws = some x := by
      refine ⟨(List.range cap).map fun j => (w.cells? 0 (a.add (j * ie.size)) ie.size).getD [], by simp, fun j ws hj => ?_⟩
      have hjc : j < cap := by have := (List.getElem?_eq_some_iff.1 hj).1; simpa using this
      simp [hjc] at hj
      have := hall j hjc
      cases hc : w.cells? 0 (a.add (j * ie.size)) ie.size with
      | none => rw [hc] at this; simp at this; omega
      | some cs' =>
       rw [hc] at hj this
       simp at hj this
       subst hj
       refine ⟨rfl, (elems ++ rest)[j]'(by omega), by simp [hcap, hjc], ?_⟩
       rw [this]; simp [hcap, hjc]
     have hin : ∀ x ∈ List.zipWith (fun ws (y : DataW D × List MemPlace) => (e, ws, y.1)) wss (elems ++ rest), ∀ μ K, Sim μ K w → Ro K → ∃ μ' K', aE T w μ K x.1 x.2.1 x.2.2 μ' K' := by
      intro x hx μ K s ro
      obtain ⟨j, hj⟩ := List.mem_iff_getElem?.1 hx
      rw [List.getElem?_zipWith] at hj
      cases hwj : wss[j]? with
      | none => rw [hwj] at hj; simp at hj
      | some ws =>
       obtain ⟨_, y, hy, ht⟩ := hws j ws hwj
       rw [hwj, hy] at hj
       simp at hj
       subst hj
       refine ih n e ws y.1 y.2 hr1 ht (fun m hm => hwt m ?_) μ K s ro
       simp only [List.mem_cons, List.mem_append]
       right
       by_cases hjl : j < elems.length
       ·rw [List.getElem?_append_left hjl] at hy
        exact .inl (Gx (j := j) (by simp [hy]) hm)
       ·rw [List.getElem?_append_right (by omega)] at hy
        exact .inr (Gx (j := j - elems.length) (by simp [hy]) hm)
     obtain ⟨μ', K', vss, s', ro', hle, hpre, hvl, hv⟩ := Om _ hin μ K s ro
     have hzl : (List.zipWith (fun ws (y : DataW D × List MemPlace) => (e, ws, y.1)) wss (elems ++ rest)).length = cap := by simp [hwl]; omega
     rw [hzl] at hvl
     have hget : ∀ (j : Nat) vs, vss[j]? = some vs → ∃ ws y, wss[j]? = some ws ∧ (elems ++ rest)[j]? = some y ∧ VRs μ' vs ws ∧ (∀ v ∈ vs, v.one = true) ∧ Rd T K' e vs y.1 ∧ vs.length = ie.size ∧ w.cells? 0 (a.add (j * ie.size)) ie.size = some ws := fun j vs hj => by
      have hjc : j < cap := by rw [← hvl]; exact (List.getElem?_eq_some_iff.1 hj).1
      have hwj : wss[j]? = some (wss[j]'(by omega)) := by simp [hwl, hjc]
      obtain ⟨hc, y, hy, _⟩ := hws j _ hwj
      have hz : (List.zipWith (fun ws (y : DataW D × List MemPlace) => (e, ws, y.1)) wss (elems ++ rest))[j]? = some (e, wss[j]'(by omega), y.1) := by rw [List.getElem?_zipWith, hwj, hy]
      obtain ⟨a1, a2, a3⟩ := hv j _ vs hz hj
      refine ⟨_, y, hwj, hy, a1, a2, a3, ?_, hc⟩
      have := a1.length
      have := (Nj hc).1
      simp only at *
      omega
     have hvsz : ∀ x ∈ vss, x.length = ie.size := fun x hx => by
      obtain ⟨j, hj⟩ := List.mem_iff_getElem?.1 hx
      obtain ⟨_, _, _, _, _, _, _, h8, _⟩ := hget j x hj
      exact h8
     have hwsz : ∀ x ∈ wss, x.length = ie.size := fun x hx => by
      obtain ⟨j, hj⟩ := List.mem_iff_getElem?.1 hx
      exact (Nj (hws j x hj).1).1
     have hfl : vss.flatten.length = cap * ie.size := by rw [Gh hvsz, hvl]
     have hwfl : wss.flatten.length = cap * ie.size := by rw [Gh hwsz, hwl]
     have hflat : VRs μ' vss.flatten wss.flatten := VRs.flatten (by omega) fun j vs ws hj hwj => by
      obtain ⟨ws', _, h1, _, h3, _⟩ := hget j vs hj
      rw [hwj] at h1
      obtain rfl := Option.some.inj h1
      exact h3
     have hone : ∀ v ∈ vss.flatten, v.one = true := fun v hv' => by
      obtain ⟨l, hl, hvl'⟩ := List.mem_flatten.1 hv'
      obtain ⟨j, hj⟩ := List.mem_iff_getElem?.1 hl
      obtain ⟨_, _, _, _, _, h6, _⟩ := hget j l hj
      exact h6 v hvl'
     have hrd : ∀ (j : Nat) x, (elems.map (·.1) ++ rest.map (·.1))[j]? = some x → Rd T K' e ((vss.flatten.drop (j * ie.size)).take ie.size) x := fun j x hx => by
      rw [← List.map_append] at hx
      simp only [List.getElem?_map, Option.map_eq_some_iff] at hx
      obtain ⟨y, hy, rfl⟩ := hx
      have hjc : j < vss.length := by have := (List.getElem?_eq_some_iff.1 hy).1; omega
      have hj : vss[j]? = some vss[j] := by simp [hjc]
      obtain ⟨_, y', _, h2, _, _, h7, _⟩ := hget j _ hj
      rw [hy] at h2
      obtain rfl := Option.some.inj h2
      rw [Ie hvsz hj]
      exact h7
     have hfin : ∀ (K'' : Heap), K' <+: K'' → ∀ b, K''[b]? = some (.row vss.flatten false) → Rd T K'' t [.slc b 0 len cap true ie.size] (.slice (elems.map (·.1)) (rest.map (·.1))) := fun K'' hp b hb =>
      .slc hT hik hE (by simp [hlen]) (by simp; omega) (by
       have := hwt _ (List.mem_cons_self ..)
       rw [hbytes] at this
       simp only [List.length_map] at this
       have e : elems.length + rest.length = cap := by simpa using hcap
       rwa [e] at this) hb hfl (fun j x hx => (hrd j x hx).mono hp)
     by_cases hc0 : cap = 0
     ·refine ⟨μ', K' ++ [.row vss.flatten false], ?_, ro'.snoc _, hle, hpre.trans (List.prefix_append ..), [.slc K'.length 0 len cap true ie.size], ?_, by simp [V.one], hfin _ (List.prefix_append ..) _ (by simp)⟩
      ·have : vss.flatten = [] := by
        have : vss.flatten.length = 0 := by rw [hfl, hc0]; simp
        exact List.length_eq_zero_iff.1 this
       rw [this]
       exact Xh s' ro'
      ·simp only [VRs, VR]
       exact ⟨_, [], rfl, ⟨a, cap, rfl, hlc, Nat.le_refl _, fun _ => rfl, .inl ⟨trivial, hc0⟩⟩, rfl⟩
     ·-- where the row Js
      have hcell : ∀ i, i < cap * ie.size → ∃ cv, wss.flatten[i]? = some cv ∧ w.cell? (a.add i) = some cv := fun i hi => by
       have hj : i / ie.size < cap := (Nat.div_lt_iff_lt_mul hr2).2 hi
       have hwj : wss[i / ie.size]? = some (wss[i / ie.size]'(by omega)) := by simp [hwl, hj]
       have hc := (hws _ _ hwj).1
       obtain ⟨c1, c2⟩ := Nj hc
       have hm : i % ie.size < ie.size := Nat.mod_lt _ hr2
       have hx : (wss[i / ie.size]'(by omega))[i % ie.size]? = some ((wss[i / ie.size]'(by omega))[i % ie.size]'(by omega)) := by simp [c1, hm]
       refine ⟨(wss[i / ie.size]'(by omega))[i % ie.size]'(by omega), ?_, ?_⟩
       rotate_left
       ·have := c2 _ _ hx
        have e1 : (a.add (i / ie.size * ie.size)).add (i % ie.size) = a.add i := by
         have key : i / ie.size * ie.size + i % ie.size = i := by rw [Nat.mul_comm]; exact Nat.div_add_mod i ie.size
         rw [add_add, key]
        rw [e1] at this
        exact this
       ·have hp := Ie hwsz hwj
        have key : i / ie.size * ie.size + i % ie.size = i := by rw [Nat.mul_comm]; exact Nat.div_add_mod i ie.size
        rw [← hx, ← hp, List.getElem?_take, if_pos hm, List.getElem?_drop, key]
      have hpos : 0 < cap * ie.size := Nat.mul_pos (by omega) hr2
      obtain ⟨c0, _, hc0'⟩ := hcell 0 hpos
      have spot : a.spot = none ∧ a.block < w.heap.size := by
       have := Ty hc0'
       unfold Addr.add at this
       simpa using this
      obtain ⟨B, o, sp⟩ := a
      simp only at spot
      obtain ⟨rfl, hB⟩ := spot
      refine ⟨μ'.put K'.length ⟨B, o, cap * ie.size⟩, K' ++ [.row vss.flatten false], ?_, ro'.snoc _, hle.trans (Mu.KV _ s'.Fl), hpre.trans (List.prefix_append ..), [.slc K'.length 0 len cap true ie.size], ?_, by simp [V.one], hfin _ (List.prefix_append ..) _ (by simp)⟩
      ·refine Zj s' ro' hB (by rw [hfl]; exact Nat.le_refl _) (fun i hi => ?_) (fun i v hi => ?_)
       ·obtain ⟨cv, _, h2⟩ := hcell i hi
        rw [GZ] at h2
        exact ⟨cv, h2⟩
       ·have hil : i < cap * ie.size := by rw [← hfl]; exact (List.getElem?_eq_some_iff.1 hi).1
        obtain ⟨cv, h1, h2⟩ := hcell i hil
        rw [GZ] at h2
        obtain ⟨cv', h3, h4⟩ := hflat.get hi
        rw [h1] at h3
        obtain rfl := Option.some.inj h3
        exact ⟨hone v (List.mem_of_getElem? hi), cv, h2, h4⟩
      ·simp only [VRs, VR]
       exact ⟨_, [], rfl, ⟨_, cap, rfl, hlc, Nat.le_refl _, fun _ => rfl, .inr ⟨_, 0, Mu.De _ _ _, rfl, by simp, fun _ => rfl⟩⟩, rfl⟩
   ·rename_i fs hik
    rw [hik] at hk
    obtain ⟨F, places, hu, hF, _⟩ := hk
    simp only [Bool.and_eq_true, List.all_eq_true] at hr
    obtain ⟨hr1, hr2⟩ := hr
    have hr2 : tiles T 0 fs = some i.size := by simpa using hr2
    obtain ⟨xs, n', hn', hx, hcl, hxl, hxf⟩ := DataW.trod_struct hu h
    obtain rfl : fuel = n' := by omega
    simp only [Prod.mk.injEq] at hx
    obtain ⟨rfl, rfl⟩ := hx
    have hcells : P.cellsOf t = i.size := by
     obtain ⟨q, z, hq, q1, _⟩ := hf.info
     simp [Program.cellsOf, hq, q1]
    have hsz : ∀ {u : Nat} {ui : TI}, T u = some ui → P.cellsOf u = ui.size := fun hu => by
     obtain ⟨q, z, hq, q1, _⟩ := (fit _ _ hu).info
     simp [Program.cellsOf, hq, q1]
    have hfl : fs.length = F.size := by rw [← hF]; simp
    have hfget : ∀ (j : Nat) f, fs[j]? = some f → ∃ g, F[j]? = some g ∧ f = (g.type, g.offset) := fun j f hj => by
     rw [← hF] at hj
     simp only [List.getElem?_map, Array.getElem?_toList, Option.map_eq_some_iff] at hj
     obtain ⟨g, hg, rfl⟩ := hj
     exact ⟨g, hg, rfl⟩
    have hTf : ∀ (j : Nat) f, fs[j]? = some f → ∃ fi, T f.1 = some fi := fun j f hj => by
     have := hr1 f (List.mem_of_getElem? hj)
     cases n with
     | zero => cases this
     | succ n =>
      unfold readable at this
      split at this
      ·rename_i fi hfi; exact ⟨fi, hfi⟩
      ·cases this
    have hin : ∀ x ∈ List.zipWith (fun (f : Nat × Nat) (y : DataW D × List MemPlace) => (f.1, (cs.drop f.2).take (P.cellsOf f.1), y.1)) fs xs, ∀ μ K, Sim μ K w → Ro K → ∃ μ' K', aE T w μ K x.1 x.2.1 x.2.2 μ' K' := by
     intro x hx μ K s ro
     obtain ⟨j, hj⟩ := List.mem_iff_getElem?.1 hx
     rw [List.getElem?_zipWith] at hj
     cases hfj : fs[j]? with
     | none => rw [hfj] at hj; simp at hj
     | some f =>
      cases hxj : xs[j]? with
      | none => rw [hfj, hxj] at hj; simp at hj
      | some y =>
       rw [hfj, hxj] at hj
       simp at hj
       subst hj
       obtain ⟨g, hg, rfl⟩ := hfget j f hfj
       have ht := hxf j g hg
       rw [hxj] at ht
       refine ih n g.type _ y.1 y.2 (hr1 _ (List.mem_of_getElem? hfj)) ht (fun m hm => hw m ?_) μ K s ro
       simp only [DataW.weights, hu]
       exact DataW.weights_mem_each (j := j) (by simp [hg]) (by simp [hxj]) m hm
    obtain ⟨μ', K', vss, s', ro', hle, hpre, hvl, hv⟩ := Om _ hin μ K s ro
    have hzl : (List.zipWith (fun (f : Nat × Nat) (y : DataW D × List MemPlace) => (f.1, (cs.drop f.2).take (P.cellsOf f.1), y.1)) fs xs).length = fs.length := by simp; omega
    rw [hzl] at hvl
    have hget : ∀ (j : Nat) f fi vs, fs[j]? = some f → T f.1 = some fi → vss[j]? = some vs → ∃ y, xs[j]? = some y ∧ VRs μ' vs ((cs.drop f.2).take fi.size) ∧ (∀ v ∈ vs, v.one = true) ∧ Rd T K' f.1 vs y.1 ∧ vs.length = fi.size := fun j f fi vs hfj hfi hj => by
     have hjl : j < fs.length := (List.getElem?_eq_some_iff.1 hfj).1
     have hxj : xs[j]? = some (xs[j]'(by omega)) := by simp
     have hz : (List.zipWith (fun (f : Nat × Nat) (y : DataW D × List MemPlace) => (f.1, (cs.drop f.2).take (P.cellsOf f.1), y.1)) fs xs)[j]? = some (f.1, (cs.drop f.2).take (P.cellsOf f.1), (xs[j]'(by omega)).1) := by rw [List.getElem?_zipWith, hfj, hxj]
     obtain ⟨a1, a2, a3⟩ := hv j _ vs hz hj
     rw [hsz hfi] at a1
     refine ⟨_, hxj, a1, a2, a3, ?_⟩
     have h1 := a1.length
     have h2 := Lk hr2 hfj hfi
     simp only [List.length_take, List.length_drop] at h1
     omega
    have hpl : ∀ (j : Nat) f fi vs, fs[j]? = some f → T f.1 = some fi → vss[j]? = some vs → vs.length = fi.size := fun j f fi vs h1 h2 h3 => by
     obtain ⟨_, _, _, _, _, h⟩ := hget j f fi vs h1 h2 h3; exact h
    have hwhole : (fs.map fun f => (cs.drop f.2).take (P.cellsOf f.1)).flatten = cs := by
     rw [Kk (cs := cs) (l := fs.map fun f => (cs.drop f.2).take (P.cellsOf f.1)) hr2 (by omega) (by simp) (fun j f fi x hfj hfi hx => by
      simp only [List.getElem?_map, hfj, Option.map_some, Option.some.injEq] at hx
      rw [← hx, hsz hfi])]
     simp only [List.drop_zero, Nat.sub_zero]
     rw [List.take_of_length_le (by omega)]
    have hflat : VRs μ' vss.flatten cs := by
     rw [← hwhole]
     refine VRs.flatten (by simp [hvl]) fun j vs ws hj hwj => ?_
     simp only [List.getElem?_map, Option.map_eq_some_iff] at hwj
     obtain ⟨f, hfj, rfl⟩ := hwj
     obtain ⟨fi, hfi⟩ := hTf j f hfj
     obtain ⟨_, _, h, _⟩ := hget j f fi vs hfj hfi hj
     rw [hsz hfi]; exact h
    refine ⟨μ', K', s', ro', hle, hpre, vss.flatten, hflat, fun v hv' => ?_, .strct hT hik (by have := hflat.length; omega) (by simp; omega) fun j f fi x hfj hfi hx => ?_⟩
    ·obtain ⟨l, hl, hvl'⟩ := List.mem_flatten.1 hv'
     obtain ⟨j, hj⟩ := List.mem_iff_getElem?.1 hl
     have hjl : j < fs.length := by rw [← hvl]; exact (List.getElem?_eq_some_iff.1 hj).1
     have hfj : fs[j]? = some fs[j] := by simp [hjl]
     obtain ⟨fi, hfi⟩ := hTf j _ hfj
     obtain ⟨_, _, _, h6, _⟩ := hget j _ fi l hfj hfi hj
     exact h6 v hvl'
    ·simp only [List.getElem?_map, Option.map_eq_some_iff] at hx
     obtain ⟨y, hy, rfl⟩ := hx
     have hjl : j < fs.length := (List.getElem?_eq_some_iff.1 hfj).1
     have hj : vss[j]? = some (vss[j]'(by omega)) := by simp
     obtain ⟨y', h1, _, _, h4, _⟩ := hget j f fi _ hfj hfi hj
     rw [hy] at h1
     obtain rfl := Option.some.inj h1
     have := PC hr2 hvl hpl hfj hfi hj
     rw [Nat.sub_zero] at this
     rw [this]; exact h4
   ·cases hr
  ·cases hr
end Go.Proofs.YtncjbjlmgnjhiaaGreat.VM
namespace Go.Proofs.YtncjbjlmgnjhiaaGreat.VM
open Go Go.ChangeShapes Go.WideShapes Go.RowKit
set_option linter.unusedVariables false
set_option linter.unusedSimpArgs false
variable {P : Program} {T : Tab}
def RdV (T : Tab) (K : Heap) {D : Type} (t : Nat) (v : V) (d : DataW D) : Prop :=
 ∃ i, T t = some i ∧ ((i.k.agg = true ∧ ∃ vs, v = .agg vs ∧ Rd T K t vs d) ∨ (i.k.agg = false ∧ Rd T K t [v] d))
def RdAll (T : Tab) (K : Heap) {D : Type} : List Nat → List V → List (DataW D) → Prop
 | [], [], [] => True
 | t :: ts, v :: vs, d :: ds => RdV T K t v d ∧ RdAll T K ts vs ds
 | _, _, _ => False
theorem RdV.mono {D : Type} {K K' : Heap} (hp : K <+: K') {t : Nat} {v : V} {d : DataW D} (h : RdV T K t v d) : RdV T K' t v d := by
 obtain ⟨i, h1, h2⟩ := h
 refine ⟨i, h1, h2.imp ?_ ?_⟩
 ·rintro ⟨a, vs, e, h⟩; exact ⟨a, vs, e, h.mono hp⟩
 ·rintro ⟨a, h⟩; exact ⟨a, h.mono hp⟩
theorem VRs.single {μ : Mu} {v : V} {l : List Value} (h : VRs μ [v] l) : ∃ c, l = [c] ∧ VR μ v c := by
 simp only [VRs] at h
 obtain ⟨c, r, rfl, h1, rfl⟩ := h
 exact ⟨c, rfl, h1⟩
theorem Zt (fit : Fits P T) {D : Type} {enc : TypeId × Value → D} {w : World} {n t : Nat} {v : Value} {d : DataW D} {ps : List MemPlace} {base : Nat} (hr : readable T n t = true) (hok : Value.okWide P w .any base t v)
  (h : DataW.Trod enc P w 0 (fun _ => true) true t v d ps) (hw : ∀ m ∈ d.weights P t, m ≤ reachBytes) {μ : Mu} {K : Heap} (s : Sim μ K w) (ro : Ro K) :
  ∃ μ' K' u, Sim μ' K' w ∧ Ro K' ∧ Mu.Le μ μ' ∧ K <+: K' ∧ VR μ' u v ∧ RdV T K' t u d := by
 obtain ⟨fuel, h⟩ := h
 obtain ⟨μ', K', s', ro', hle, hpre, vs, h1, h2, h3⟩ := Xo fit fuel n t _ d ps hr h hw μ K s ro
 cases n with
 | zero => cases hr
 | succ n =>
 unfold readable at hr
 split at hr
 ·rename_i i hT
  have hk := (fit t i hT).kind
  have plain : ∀ {u : V} {ty : TypeDesc}, P.underlying t = some ty → (∀ F, ty ≠ .struct F) → (∀ n e, ty ≠ .array n e) → (∃ x, v.cells = #[x] ∧ v = x) → i.k.agg = false → ∃ u, VR μ' u v ∧ RdV T K' t u d := by
   rintro _ ty hu hs ha ⟨x, hx, rfl⟩ hagg
   rw [hx] at h1
   have hl := h1.length
   match vs, hl, h1, h3 with
   | [u], _, h1, h3 =>
    obtain ⟨c, hc, hvr⟩ := h1.single
    simp only [List.cons.injEq, and_true] at hc
    subst hc
    exact ⟨u, hvr, i, hT, .inr ⟨hagg, h3⟩⟩
  suffices hfin : ∃ u, VR μ' u v ∧ RdV T K' t u d by
   obtain ⟨u, a, b⟩ := hfin
   exact ⟨μ', K', u, s', ro', hle, hpre, a, b⟩
  split at hr
  ·rename_i hik
   rw [hik] at hk
   obtain ⟨b, rfl⟩ := okWide_bool hk hok
   exact plain (u := V.undef) hk nofun nofun ⟨_, rfl, rfl⟩ (by rw [hik]; rfl)
  ·rename_i k hik
   rw [hik] at hk
   obtain ⟨b, rfl⟩ := okWide_int hk hok
   exact plain (u := V.undef) hk nofun nofun ⟨_, rfl, rfl⟩ (by rw [hik]; rfl)
  ·rename_i hik
   rw [hik] at hk
   obtain ⟨b, rfl⟩ := okWide_string hk hok
   exact plain (u := V.undef) hk nofun nofun ⟨_, rfl, rfl⟩ (by rw [hik]; rfl)
  ·rename_i e hik
   rw [hik] at hk
   obtain ⟨a, len, cap, rfl⟩ := okWide_slice hk hok
   exact plain (u := V.undef) hk nofun nofun ⟨_, rfl, rfl⟩ (by rw [hik]; rfl)
  ·rename_i fs hik
   rw [hik] at hk
   obtain ⟨F, _, hu, _⟩ := hk
   obtain ⟨cs, rfl, _⟩ := okWide_struct hu hok
   refine ⟨.agg vs, ?_, i, hT, .inl ⟨by rw [hik]; rfl, vs, rfl, h3⟩⟩
   simp only [VR]
   exact ⟨cs, rfl, h2, h1⟩
  ·cases hr
 ·cases hr
theorem QQ (fit : Fits P T) {D : Type} {enc : TypeId × Value → D} {w : World} {n base : Nat} : ∀ {ts : List TypeId} {vs : List Value} {ds : List (DataW D)} {ps : List MemPlace}, DataW.TrodAll enc P w 0 (fun _ => true) true ts vs ds ps →
  (∀ t ∈ ts, readable T n t = true) → (∀ (j : Nat) t v, ts[j]? = some t → vs[j]? = some v → Value.okWide P w .any base t v) → (∀ (j : Nat) t d, ts[j]? = some t → ds[j]? = some d → ∀ m ∈ d.weights P t, m ≤ reachBytes) → ∀ {μ : Mu} {K : Heap}, Sim μ K w → Ro K →
  ∃ (μ' : Mu) (K' : Heap) (us : List V), Sim μ' K' w ∧ Ro K' ∧ Mu.Le μ μ' ∧ K <+: K' ∧ VRs μ' us vs ∧ RdAll T K' ts us ds
 | [], vs, ds, ps, h, _, _, _, μ, K, s, ro => by
  obtain ⟨rfl, rfl, rfl⟩ := trodAll_nil h
  exact ⟨μ, K, [], s, ro, Mu.Le.refl _, List.prefix_refl _, by simp [VRs], trivial⟩
 | t :: ts, vs, ds, ps, h, hr, hok, hw, μ, K, s, ro => by
  obtain ⟨v, vs', d, ds', p, q, rfl, rfl, rfl, h1, h2⟩ := trodAll_cons h
  obtain ⟨μ1, K1, u, s1, r1, l1, p1, a1, b1⟩ := Zt fit (hr t (by simp)) (hok 0 t v rfl rfl) h1 (hw 0 t d rfl rfl) s ro
  obtain ⟨μ2, K2, us, s2, r2, l2, p2, a2, b2⟩ := QQ fit h2 (fun t ht => hr t (by simp [ht])) (fun j t v ht hv => hok (j + 1) t v (by simpa using ht) (by simpa using hv)) (fun j t d ht hd => hw (j + 1) t d (by simpa using ht) (by simpa using hd)) s1 r1
  refine ⟨μ2, K2, u :: us, s2, r2, l1.trans l2, p1.trans p2, ?_, b1.mono p2, b2⟩
  simp only [VRs]
  exact ⟨v, vs', rfl, a1.mono l2, a2⟩
theorem QR {D : Type} {enc : TypeId × Value → D} (hl : laidOutB P = true) {W W' : World} (hb : Below W.heap.size W W') : ∀ {ts : List TypeId} {vs : List Value} {ds : List (DataW D)} {ps : List MemPlace}, DataW.TrodAll enc P W 0 (fun _ => true) true ts vs ds ps →
  (∀ t ∈ ts, P.readableRec t = true ∧ t < P.types.size) → (∀ x ∈ ps, x.block < W.heap.size) → DataW.TrodAll enc P W' 0 (fun b => decide (b < W.heap.size)) true ts vs ds ps
 | [], vs, ds, ps, h, _, _ => by
  obtain ⟨rfl, rfl, rfl⟩ := trodAll_nil h
  exact trodAll_mk0
 | t :: ts, vs, ds, ps, h, hr, hlt => by
  obtain ⟨v, vs', d, ds', p, q, rfl, rfl, rfl, h1, h2⟩ := trodAll_cons h
  exact ⟨p, q, Below.trod hl (hr t (by simp)).1 (hr t (by simp)).2 h1 hb (fun x hx => hlt x (by simp [hx])), QR hl hb h2 (fun t ht => hr t (by simp [ht])) (fun x hx => hlt x (by simp [hx])), rfl⟩
theorem NA {D : Type} {enc : TypeId × Value → D} {w : World} {b : Nat} {sp : Nat → Bool} {hd : Bool} : ∀ {ts : List TypeId} {vs : List Value} {ds : List (DataW D)} {ps : List MemPlace}, DataW.TrodAll enc P w b sp hd ts vs ds ps → ds.length = ts.length
 | [], _, _, _, h => by obtain ⟨_, rfl, _⟩ := trodAll_nil h; rfl
 | _ :: _, _, _, _, h => by obtain ⟨_, _, _, _, _, _, rfl, rfl, _, _, h2⟩ := trodAll_cons h; simp [NA h2]
theorem Zi (w : World) : Sim (fun _ => none) [] w := ⟨nofun, nofun, nofun, nofun, nofun, nofun⟩
def Xx (s : ChangeSpec) (n : Nat) : Prop := s.vars = [] ∧ ∀ (D : Type) (ds : List (DataW D)), ds.length = n → (s.fn D ds).results = [.lit (.bool true)] ∧ (s.fn D ds).args = ds ∧ (s.fn D ds).vars = []
theorem law_contract (fit : Fits P T) (hl : laidOutB P = true) {f : Nat} {fn : Func} {s : ChangeSpec} {n rt : Nat} (hrt : fn.resultTypes = #[rt]) (hb : P.underlying rt = some .bool)
  (hts : ∀ t ∈ fn.params.toList, readable T n t = true ∧ P.readableRec t = true ∧ t < P.types.size) (hs : Xx s fn.params.size)
  {D : Type} {enc : TypeId × Value → D} {W : World} {base : Nat} {args : Array Value} {ds gs : List (DataW D)} {before : List MemPlace}
  (hval : ∀ (j : Nat) t v, fn.params[j]? = some t → args[j]? = some v → Value.okWide P W .any base t v)
  (hW : DataW.Whole enc P fn.params.toList s.vars false W args.toList ds gs before)
  (hsz : (DataW.weightsEach P (fn.params.toList ++ s.plain.varTypes P) (ds ++ gs)).all (· ≤ reachBytes) = true)
  (main : ∀ (K : Heap) (vs : List V), Ro K → RdAll T K fn.params.toList vs ds → ∃ K', Call P f vs K (.bool true) K') :
  Calls P f args W fun e W' => ∃ v, e = .returned v ∧ s.post enc P fn false true false false W args v W' := by
 have hW' := hW
 obtain ⟨p, q, hA, hV, rfl, hfz, hnd⟩ := hW
 obtain ⟨hs1, hs2⟩ := hs
 rw [hs1] at hV
 obtain ⟨rfl, rfl⟩ := trodVars_none hV
 have hlen := NA hA
 obtain ⟨μ, K, us, s0, ro, _, _, hu, hrd⟩ := QQ fit hA (fun t ht => (hts t ht).1) (fun j t v ht hv => hval j t v (by simpa using ht) (by simpa using hv)) (fun j t d ht hd m hm => by
  have := List.all_eq_true.1 hsz m (DataW.weights_mem_each (j := j) (t := t) (d := d) (by rw [List.getElem?_append_left (List.getElem?_eq_some_iff.1 ht).1]; exact ht) (by simpa using hd) m hm)
  simpa using this) (Zi W) (fun b k hk => by simp at hk)
 obtain ⟨K', hc⟩ := main K us ro hrd
 refine (hc.2 μ W args s0 hu).mono ?_
 rintro e W' ⟨cv, μ', rfl, hv, _, tr⟩
 simp only [VR] at hv
 subst hv
 have bel : Below W.heap.size W W' := ⟨tr.os, tr.tape, tr.output, tr.size, fun B hB => tr.frame B hB fun b x k hx hk ho => by have := ro b k hk; rw [this] at ho; cases ho⟩
 obtain ⟨g1, g2, g3⟩ := hs2 D (ds ++ []) (by simp [hlen])
 refine ⟨_, rfl, ds, [], p ++ [], [], p, [], hW', ?_, ?_, ?_, bel.frame _, fun h => by cases h⟩
 ·rw [g1, hrt]
  exact trodAll_mk1 (shut_bool hb true)
 ·rw [g2, List.append_nil]
  exact QR hl bel hA (fun t ht => (hts t ht).2) (fun x hx => hW'.lt x (by simp [hx]))
 ·rw [hs1, g3]
  exact rfl
section
variable {H : Type} {enc : TypeId × Value → H}
end
end Go.Proofs.YtncjbjlmgnjhiaaGreat.VM
namespace Go.Proofs.YtncjbjlmgnjhiaaGreat.VM
open Go
set_option linter.unusedVariables false
set_option linter.unusedSimpArgs false
variable {T : Tab} {α : Type} {D : Type}
theorem Rd.isInt {K : Heap} {t : Nat} {i : TI} {k : IntKind} {cs : List V} {d : DataW D} (hT : T t = some i) (hk : i.k = .int k) (h : Rd T K t cs d) : ∃ n, cs = [.int k n] ∧ k.min ≤ n ∧ n ≤ k.max := by
 cases h with
 | int h hk' lo hi => rw [hT] at h; cases h; rw [hk] at hk'; cases hk'; exact ⟨_, rfl, lo, hi⟩
 | bool h hk' => rw [hT] at h; cases h; rw [hk] at hk'; cases hk'
 | str h hk' => rw [hT] at h; cases h; rw [hk] at hk'; cases hk'
 | AN h hk' => rw [hT] at h; cases h; rw [hk] at hk'; cases hk'
 | slc h hk' => rw [hT] at h; cases h; rw [hk] at hk'; cases hk'
 | strct h hk' => rw [hT] at h; cases h; rw [hk] at hk'; cases hk'
theorem Rd.isBool {K : Heap} {t : Nat} {i : TI} {cs : List V} {d : DataW D} (hT : T t = some i) (hk : i.k = .bool) (h : Rd T K t cs d) : ∃ b, cs = [.bool b] := by
 cases h with
 | bool h hk' => exact ⟨_, rfl⟩
 | int h hk' => rw [hT] at h; cases h; rw [hk] at hk'; cases hk'
 | str h hk' => rw [hT] at h; cases h; rw [hk] at hk'; cases hk'
 | AN h hk' => rw [hT] at h; cases h; rw [hk] at hk'; cases hk'
 | slc h hk' => rw [hT] at h; cases h; rw [hk] at hk'; cases hk'
 | strct h hk' => rw [hT] at h; cases h; rw [hk] at hk'; cases hk'
theorem Rd.field {K : Heap} {t : Nat} {i : TI} {fs : List (Nat × Nat)} {cs : List V} {d : DataW D} (hT : T t = some i) (hk : i.k = .strct fs) (h : Rd T K t cs d) :
  cs.length = i.size ∧ ∀ (j : Nat) f fi, fs[j]? = some f → T f.1 = some fi → ∃ x : DataW D, Rd T K f.1 ((cs.drop f.2).take fi.size) x := by
 cases h with
 | strct h hk' hl hp hd =>
  rw [hT] at h; cases h; rw [hk] at hk'; cases hk'
  refine ⟨hl, fun j f fi hf hfi => ?_⟩
  rename_i parts
  have hj : j < parts.length := by rw [hp]; exact (List.getElem?_eq_some_iff.1 hf).1
  exact ⟨parts[j], hd j f fi _ hf hfi (by simp [hj])⟩
 | int h hk' => rw [hT] at h; cases h; rw [hk] at hk'; cases hk'
 | bool h hk' => rw [hT] at h; cases h; rw [hk] at hk'; cases hk'
 | AN h hk' => rw [hT] at h; cases h; rw [hk] at hk'; cases hk'
 | slc h hk' => rw [hT] at h; cases h; rw [hk] at hk'; cases hk'
 | str h hk' => rw [hT] at h; cases h; rw [hk] at hk'; cases hk'
theorem Vm {R : Nat → α → Prop} : ∀ (n : Nat), (∀ j, j < n → ∃ x, R j x) → ∃ xs : List α, xs.length = n ∧ ∀ (j : Nat) x, xs[j]? = some x → R j x
 | 0, _ => ⟨[], rfl, by simp⟩
 | n + 1, h => by
  obtain ⟨xs, h1, h2⟩ := Vm n fun j hj => h j (by omega)
  obtain ⟨x, hx⟩ := h n (by omega)
  refine ⟨xs ++ [x], by simp [h1], fun j y hy => ?_⟩
  by_cases hj : j < n
  ·rw [List.getElem?_append_left (by omega)] at hy; exact h2 j y hy
  ·rw [List.getElem?_append_right (by omega)] at hy
   have : j = n := by
    have := (List.getElem?_eq_some_iff.1 hy).1
    simp at this; omega
   subst this
   simp [h1] at hy
   subst hy; exact hx
theorem Rd.isSlice {K : Heap} {t e : Nat} {i ie : TI} {v : V} {d : DataW D} {R : List V → α → Prop} (hT : T t = some i) (hk : i.k = .slice e) (hE : T e = some ie) (hR : ∀ cs (x : DataW D), Rd T K e cs x → ∃ y, R cs y) (h : Rd T K t [v] d) :
  ∃ xs, Sl ie.size R K v xs ∧ xs.length * ie.bytes ≤ reachBytes := by
 cases h with
 | AN h hk' => exact ⟨[], .inl ⟨rfl, rfl⟩, by simp⟩
 | slc h hk' he hl hc hb hr hcs hd =>
  rename_i i' e' ie' b len cap cs elems spare
  rw [hT] at h; cases h; rw [hk] at hk'; cases hk'; rw [hE] at he; cases he
  have hlen : len ≤ cap := by omega
  obtain ⟨xs, h1, h2⟩ := Vm (R := fun j y => R ((cs.drop (j * ie.size)).take ie.size) y) len fun j hj => by
   have hj' : j < (elems ++ spare).length := by simp; omega
   exact hR _ _ (hd j ((elems ++ spare)[j]) (by simp [hj']))
  refine ⟨xs, .inr ⟨b, 0, cap, true, cs, false, by rw [h1], by omega, hr, ?_, fun k x hx => by rw [Nat.zero_add]; exact h2 k x hx⟩, ?_⟩
  ·have : xs.length * ie.size ≤ cap * ie.size := Nat.mul_le_mul_right _ (by omega)
   omega
  ·have : xs.length * ie.bytes ≤ cap * ie.bytes := Nat.mul_le_mul_right _ (by omega)
   omega
 | int h hk' => rw [hT] at h; cases h; rw [hk] at hk'; cases hk'
 | bool h hk' => rw [hT] at h; cases h; rw [hk] at hk'; cases hk'
 | str h hk' => rw [hT] at h; cases h; rw [hk] at hk'; cases hk'
 | strct h hk' => rw [hT] at h; cases h; rw [hk] at hk'; cases hk'
theorem RdV.plain {K : Heap} {t : Nat} {i : TI} {v : V} {d : DataW D} (hT : T t = some i) (ha : i.k.agg = false) (h : RdV T K t v d) : Rd T K t [v] d := by
 obtain ⟨i', h1, h2⟩ := h
 rw [hT] at h1; cases h1
 rcases h2 with ⟨h2, _⟩ | ⟨_, h2⟩
 ·rw [ha] at h2; cases h2
 ·exact h2
theorem RdV.agg {K : Heap} {t : Nat} {i : TI} {v : V} {d : DataW D} (hT : T t = some i) (ha : i.k.agg = true) (h : RdV T K t v d) : ∃ vs, v = .agg vs ∧ Rd T K t vs d := by
 obtain ⟨i', h1, h2⟩ := h
 rw [hT] at h1; cases h1
 rcases h2 with ⟨_, h2⟩ | ⟨h2, _⟩
 ·exact h2
 ·rw [ha] at h2; cases h2
theorem RdV.int {K : Heap} {t : Nat} {i : TI} {k : IntKind} {v : V} {d : DataW D} (hT : T t = some i) (hk : i.k = .int k) (h : RdV T K t v d) : ∃ n, v = .int k n ∧ k.min ≤ n ∧ n ≤ k.max := by
 obtain ⟨n, h1, h2⟩ := (h.plain hT (by rw [hk]; rfl)).isInt hT hk
 simp only [List.cons.injEq, and_true] at h1
 exact ⟨n, h1, h2⟩
end Go.Proofs.YtncjbjlmgnjhiaaGreat.VM
namespace Go.Proofs.YtncjbjlmgnjhiaaGreat.VM
open Go
set_option linter.unusedVariables false
set_option linter.unusedSimpArgs false
variable {P : Program} {T : Tab} {α : Type}
def BR (sz : Nat) (R : List V → α → Prop) (B H : Heap) (v : V) (xs : List α) : Prop :=
 B <+: H ∧ ((v = .AN ∧ xs = []) ∨ ∃ b, B.length ≤ b ∧ Own sz R H b v xs)
theorem BR.nil {sz : Nat} {R : List V → α → Prop} {B H : Heap} (hp : B <+: H) : BR sz R B H .AN [] := ⟨hp, .inl ⟨rfl, rfl⟩⟩
theorem BR.own {sz : Nat} {R : List V → α → Prop} {B H : Heap} {b : Nat} {v : V} {xs : List α} (hp : B <+: H) (hb : B.length ≤ b) (h : Own sz R H b v xs) : BR sz R B H v xs := ⟨hp, .inr ⟨b, hb, h⟩⟩
theorem BR.sl {sz : Nat} {R : List V → α → Prop} {B H : Heap} {v : V} {xs : List α} (h : BR sz R B H v xs) : Sl sz R H v xs := by
 rcases h.2 with ⟨rfl, rfl⟩ | ⟨b, _, h⟩
 ·exact .inl ⟨rfl, rfl⟩
 ·exact h.sl
theorem BR.pre {sz : Nat} {R : List V → α → Prop} {B H H' : Heap} {v : V} {xs : List α} (h : BR sz R B H v xs) (hp : H <+: H') : BR sz R B H' v xs :=
 ⟨h.1.trans hp, h.2.imp id fun ⟨b, h1, h2⟩ => ⟨b, h1, h2.pre hp⟩⟩
theorem BR.low {sz : Nat} {R : List V → α → Prop} {B B' H : Heap} {v : V} {xs : List α} (h : BR sz R B H v xs) (hp : B' <+: B) : BR sz R B' H v xs :=
 ⟨hp.trans h.1, h.2.imp id fun ⟨b, h1, h2⟩ => ⟨b, Nat.le_trans hp.length_le h1, h2⟩⟩
theorem Dv {sz : Nat} {R : List V → α → Prop} {z : List V} {x : α} (hl : z.length = sz) (h : R z x) : ∀ n, Cells sz R (Bw z n) (List.replicate n x)
 | 0 => Cells.nil
 | n + 1 => by
  have := Cells.cons (R := R) hl h (Dv hl h n)
  unfold Bw at this ⊢
  rw [List.replicate_succ, List.replicate_succ, List.flatten_cons]
  exact this
theorem Dj {sz : Nat} {R : List V → α → Prop} {B H : Heap} {cs : List V} {xs : List α} {t : Bool} (hp : B <+: H) (h : Cells sz R cs xs) : BR sz R B (H ++ [.row cs true]) (.slc H.length 0 xs.length xs.length t sz) xs :=
 ⟨hp.trans (List.prefix_append _ _), .inr ⟨H.length, hp.length_le, JP H h⟩⟩
theorem BR.append {sz : Nat} {R : List V → α → Prop} {B H : Heap} {v : V} {xs ys : List α} {news : List V} {ie : TI} (h : BR sz R B H v xs) (hs : ie.size = sz) (hn : Cells sz R news ys)
  (hb : (xs.length + ys.length) * ie.bytes ≤ 2 ^ 47 ∧ xs.length + ys.length ≤ 2 ^ 47) : ∃ v' H', appendV ie v ys.length news H = some (v', H') ∧ BR sz R B H' v' (xs ++ ys) := by
 obtain ⟨hp, h⟩ := h
 rcases h with ⟨rfl, rfl⟩ | ⟨b, hb1, ho⟩
 ·by_cases h0 : ys.length = 0
  ·have : ys = [] := List.length_eq_zero_iff.1 h0
   subst this
   have hn0 : news = [] := List.length_eq_zero_iff.1 (by rw [hn.1]; simp)
   subst hn0
   exact ⟨.AN, H, by simp [appendV], BR.nil hp⟩
  ·refine ⟨.slc H.length 0 ys.length ys.length false sz, H ++ [.row news true], ?_, Dj hp hn⟩
   unfold appendV
   rw [hs, if_neg (by rw [hn.1]; simp)]
   simp only
   rw [if_neg h0, if_pos (by simpa using hb)]
 ·obtain ⟨v', b', H', h1, h2, h3, h4⟩ := Ka ho hs hn hb
  refine ⟨v', H', h1, h3.pre hp hb1, .inr ⟨b', ?_, h2⟩⟩
  have := hp.length_le
  omega
theorem ID {sz : Nat} {R : List V → α → Prop} {H : Heap} {b : Nat} {v : V} {xs : List α} (ho : Own sz R H b v xs) {t e : Nat} {i ie : TI} (hT : T t = some i) (hk : i.k = .slice e) (hE : T e = some ie) (hs : ie.size = sz) {k : Nat} (hk' : k < xs.length) :
  idxV T t v (k : Int) = some (.ptr b (k * sz)) ∧ ∀ w y, w.isTup = false → w.cells.length = sz → R w.cells y → ∃ H', storeV T e H b (k * sz) w = some H' ∧ Own sz R H' b v (xs.set k y) ∧ Fr b H H' := by
 obtain ⟨cap, t', cs, rfl, h1, h2, h3, h4⟩ := ho
 refine ⟨?_, fun w y hw hl hR => ?_⟩
 ·obtain ⟨kk, size, bytes, zero, cmp⟩ := i
  simp only at hk
  subst hk
  simp only [idxV, hT, hE, hs]
  rw [if_pos ⟨by omega, by omega⟩]
  simp
 ·have hlb : b < H.length := (List.getElem?_eq_some_iff.1 h2).1
  have hm : (k + 1) * sz ≤ xs.length * sz := Nat.mul_le_mul_right _ hk'
  rw [Nat.add_mul, Nat.one_mul] at hm
  have hfit : k * sz + w.cells.length ≤ cs.length := by rw [hl]; have := h4.1; omega
  have hst : storeV T e H b (k * sz) w = some (H.set b (.row (setL cs (k * sz) w.cells) true)) := by
   unfold storeV
   split
   ·cases hw
   ·rename_i i' hT' _
    rw [hE] at hT'
    obtain rfl := Option.some.inj hT'
    rw [if_pos (by rw [hl, hs])]
    unfold Heap.storeN
    rw [h2]
    simp only
    rw [if_pos hfit]
   ·rename_i hT'
    rw [hE] at hT'
    cases hT'
  refine ⟨_, hst, ⟨cap, t', setL cs (k * sz) w.cells, by simp, by simpa using h1, by rw [List.getElem?_set_self hlb], by rw [Ck]; exact h3, ?_, ?_, fun j x hj => ?_⟩, by simp, fun b' hb' hne => by rw [List.getElem?_set_ne (fun h => hne h.symm)]⟩
  ·rw [Ck, List.length_set]; exact h4.1
  ·rw [List.length_take, Ck, List.length_set, Nat.min_eq_left h4.1]
  ·rw [List.length_set]
   have hjl : j < xs.length := by have := (List.getElem?_eq_some_iff.1 hj).1; simpa using this
   have hjm : (j + 1) * sz ≤ xs.length * sz := Nat.mul_le_mul_right _ hjl
   rw [Nat.add_mul, Nat.one_mul] at hjm
   rw [List.drop_take, List.take_take, Nat.min_eq_left (by omega)]
   by_cases hjk : k = j
   ·subst hjk
    rw [List.getElem?_set_self hk'] at hj
    obtain rfl := Option.some.inj hj
    have : ((setL cs (k * sz) w.cells).drop (k * sz)).take sz = w.cells := by
     apply List.ext_getElem?
     intro q
     rw [List.getElem?_take]
     by_cases hq : q < sz
     ·rw [if_pos hq, List.getElem?_drop, Gt, if_pos (by omega), Nat.add_sub_cancel_left]
     ·rw [if_neg hq, List.getElem?_eq_none (by omega)]
    rw [this]; exact hR
   ·rw [List.getElem?_set_ne hjk] at hj
    have h0 := h4.cell hj
    have hout : ∀ q, q < sz → ¬ (k * sz ≤ j * sz + q ∧ j * sz + q < k * sz + w.cells.length ∧ j * sz + q < cs.length) := by
     intro q hq ⟨c1, c2, _⟩
     rw [hl] at c2
     rcases Nat.lt_or_gt_of_ne hjk with h | h
     ·have : (k + 1) * sz ≤ j * sz := Nat.mul_le_mul_right _ h
      rw [Nat.add_mul, Nat.one_mul] at this; omega
     ·have : (j + 1) * sz ≤ k * sz := Nat.mul_le_mul_right _ h
      rw [Nat.add_mul, Nat.one_mul] at this; omega
    have : ((setL cs (k * sz) w.cells).drop (j * sz)).take sz = (cs.drop (j * sz)).take sz := by
     apply List.ext_getElem?
     intro q
     rw [List.getElem?_take, List.getElem?_take]
     by_cases hq : q < sz
     ·rw [if_pos hq, if_pos hq, List.getElem?_drop, List.getElem?_drop, Gt, if_neg (hout q hq)]
     ·rw [if_neg hq, if_neg hq]
    rw [this]; exact h0
theorem BR.store {sz : Nat} {R : List V → α → Prop} {B H : Heap} {v : V} {xs : List α} (h : BR sz R B H v xs) {t e : Nat} {i ie : TI} (hT : T t = some i) (hk : i.k = .slice e) (hE : T e = some ie) (hs : ie.size = sz) {k : Nat} (hk' : k < xs.length) :
  ∃ b o, idxV T t v (k : Int) = some (.ptr b o) ∧ ∀ w y, w.isTup = false → w.cells.length = sz → R w.cells y → ∃ H', storeV T e H b o w = some H' ∧ BR sz R B H' v (xs.set k y) := by
 obtain ⟨hp, h⟩ := h
 rcases h with ⟨rfl, rfl⟩ | ⟨b, hb1, ho⟩
 ·simp at hk'
 ·obtain ⟨h1, h2⟩ := ID ho hT hk hE hs hk'
  refine ⟨b, k * sz, h1, fun w y a b c => ?_⟩
  obtain ⟨H', e1, e2, e3⟩ := h2 w y a b c
  exact ⟨H', e1, e3.pre hp hb1, .inr ⟨_, hb1, e2⟩⟩
theorem Sl.part {sz : Nat} {R : List V → α → Prop} {H : Heap} {v : V} {xs : List α} (h : Sl sz R H v xs) {l k : Nat} (hl : l ≤ k) (hk : k ≤ xs.length) : ∃ u, sliceV sz v (some (.int .i64 (l : Int))) (some (.int .i64 (k : Int))) none = some u ∧ Sl sz R H u ((xs.take k).drop l) := by
 rcases h with ⟨rfl, rfl⟩ | ⟨b, off, cap, t, cs, wr, rfl, h1, h2, h3, h4⟩
 ·simp at hk
  subst hk
  obtain rfl : l = 0 := by omega
  exact ⟨.AN, rfl, .inl ⟨rfl, by simp⟩⟩
 ·have hlen : ((xs.take k).drop l).length = k - l := by simp; omega
  refine ⟨.slc b (off + l * sz) (k - l) (cap - l) t sz, ?_, .inr ⟨b, off + l * sz, cap - l, t, cs, wr, by rw [hlen], by omega, h2, ?_, fun j x hj => ?_⟩⟩
  ·simp only [sliceV, boundV, Option.isSome_none, Bool.false_and, Bool.false_eq_true, if_false, ne_eq, not_true_eq_false]
   rw [if_pos (by omega)]
   simp only [Int.toNat_natCast]
   rw [if_pos (by omega)]
   simp
  ·rw [hlen]
   have : (l + (k - l)) * sz ≤ xs.length * sz := Nat.mul_le_mul_right _ (by omega)
   rw [Nat.add_mul] at this
   omega
  ·rw [List.getElem?_drop, List.getElem?_take] at hj
   split at hj
   ·have := h4 (l + j) x hj
    rw [Nat.add_mul] at this
    rw [Nat.add_assoc]
    exact this
   ·cases hj
theorem Sl.two {sz : Nat} {R : List V → α → Prop} {H : Heap} {v : V} {xs : List α} (h : Sl sz R H v xs) : v = .AN ∨ ∃ b o l c t s, v = .slc b o l c t s := by
 rcases h with ⟨h, _⟩ | ⟨b, off, cap, t, cs, wr, h, _⟩
 ·exact .inl h
 ·exact .inr ⟨_, _, _, _, _, _, h⟩
theorem Sl.rest {sz : Nat} {R : List V → α → Prop} {H : Heap} {v : V} {xs : List α} (h : Sl sz R H v xs) {l : Nat} (hl : l ≤ xs.length) : ∃ u, sliceV sz v (some (.int .i64 (l : Int))) none none = some u ∧ Sl sz R H u (xs.drop l) := by
 rcases h with ⟨rfl, rfl⟩ | ⟨b, off, cap, t, cs, wr, rfl, h1, h2, h3, h4⟩
 ·simp at hl
  subst hl
  exact ⟨.AN, rfl, .inl ⟨rfl, by simp⟩⟩
 ·refine ⟨.slc b (off + l * sz) (xs.length - l) (cap - l) t sz, ?_, .inr ⟨b, off + l * sz, cap - l, t, cs, wr, by rw [List.length_drop], by rw [List.length_drop]; omega, h2, ?_, fun j x hj => ?_⟩⟩
  ·simp only [sliceV, boundV, Option.isSome_none, Bool.false_and, Bool.false_eq_true, if_false, ne_eq, not_true_eq_false]
   rw [if_pos (by omega)]
   simp
  ·rw [List.length_drop]
   have : (l + (xs.length - l)) * sz ≤ xs.length * sz := Nat.mul_le_mul_right _ (by omega)
   rw [Nat.add_mul] at this
   omega
  ·rw [List.getElem?_drop] at hj
   have := h4 (l + j) x hj
   rw [Nat.add_mul] at this
   rw [Nat.add_assoc]
   exact this
def V.blk : V → Option Nat
 | .slc b _ _ _ _ _ => some b
 | _ => none
def Fb (v u : V) : Prop := ∀ b c, v.blk = some b → u.blk = some c → b ≠ c
theorem Sl.fr {α : Type} {sz : Nat} {R : List V → α → Prop} {H H' : Heap} {u : V} {zs : List α} (h : Sl sz R H u zs) (hf : ∀ c, c < H.length → u.blk = some c → H'[c]? = H[c]?) : Sl sz R H' u zs := by
 refine h.imp id ?_
 rintro ⟨b, off, cap, t, cs, wr, rfl, h2, h3, h4⟩
 exact ⟨b, off, cap, t, cs, wr, rfl, h2, by rw [hf b (List.getElem?_eq_some_iff.1 h3).1 rfl]; exact h3, h4⟩
theorem Sl.lt {α : Type} {sz : Nat} {R : List V → α → Prop} {H : Heap} {u : V} {zs : List α} (h : Sl sz R H u zs) {c : Nat} (hc : u.blk = some c) : c < H.length := by
 rcases h with ⟨rfl, _⟩ | ⟨b, off, cap, t, cs, wr, rfl, h2, h3, h4⟩
 ·cases hc
 ·cases hc; exact (List.getElem?_eq_some_iff.1 h3).1
theorem BR.blk {α : Type} {sz : Nat} {R : List V → α → Prop} {B H : Heap} {v : V} {xs : List α} (h : BR sz R B H v xs) {b : Nat} (hb : v.blk = some b) : B.length ≤ b ∧ b < H.length := by
 rcases h.2 with ⟨rfl, _⟩ | ⟨b', h1, h2⟩
 ·cases hb
 ·have hlt := h2.lt
  obtain ⟨cap, t, cs, rfl, _⟩ := h2
  cases hb
  exact ⟨h1, hlt⟩
end Go.Proofs.YtncjbjlmgnjhiaaGreat.VM
namespace Go.Proofs.YtncjbjlmgnjhiaaGreat.VM
open Go
set_option linter.unusedVariables false
set_option linter.unusedSimpArgs false
variable {P : Program} {T : Tab} {ops : Array Oper} {rest : List Oper} {Q : Rho → Heap → Prop} {ρ : Rho} {h h' : Heap} {v : V} {k : Nat} {d : Option Nat} {op : Op} {t : Nat} {p : String} {af : Array Edge}
theorem eLk {α : Type} {a b : α} (h : a = b := by exact (by simp only [beq_self_eq_true, bne_self_eq_false, Ic, FA, GG, V.of, V.ofs, AD, AB, BT, reduceIte, Nat.reduceEqDiff, reduceCtorEq, List.getD_cons_zero, List.getD_cons_succ, evs, optEv, evParts, Option.map_some, List.cons_append, List.nil_append, List.append_nil, List.append_assoc, Nat.zero_add, Nat.add_zero, *]; first | done | rfl)) : a = b := h
theorem Ib {α : Type} {a b : α} (h : a = b := by exact (by first | (simp only [beq_self_eq_true, bne_self_eq_false, Ic, FA, GG, V.of, V.ofs, AD, AB, BT, reduceIte, Nat.reduceEqDiff, reduceCtorEq, List.getD_cons_zero, List.getD_cons_succ, evs, optEv, evParts, Option.map_some, List.cons_append, List.nil_append, List.append_nil, List.append_assoc, Nat.zero_add, Nat.add_zero, *]; done) | (simp only [beq_self_eq_true, bne_self_eq_false, Ic, FA, GG, V.of, V.ofs, AD, AB, BT, reduceIte, Nat.reduceEqDiff, reduceCtorEq, List.getD_cons_zero, List.getD_cons_succ, evs, optEv, evParts, Option.map_some, List.cons_append, List.nil_append, List.append_nil, List.append_assoc, Nat.zero_add, Nat.add_zero, *]; rfl))) : a = b := h
theorem aN {α : Type} {a b : α} (h : a = b := by exact (by simp only [vbin, intBin, shiftBin, strBin, eqlOr, reduceIte, reduceCtorEq, ne_eq, not_true_eq_false, not_false_eq_true, *]; first | done | rfl)) : a = b := h
theorem NF {α : Type} {a b : α} (h : a = b := by exact (by simp only [*]; first | done | rfl)) : a = b := h
theorem UL {α : Type} {a b : α} (h : a = b := by exact (by first | (simp only [*]; done) | (simp only [*]; rfl) | exact AF (by rfl) (by rfl) (by simp only [DI, Ab]; first | done | rfl) | exact AZ (by rfl) (by rfl) (by simp only [DI, Ab]; first | done | rfl) | (simp only [List.append_assoc, List.cons_append, List.nil_append, List.length_append, List.length_cons, List.length_nil, Nat.zero_add, Nat.add_zero, Nat.reduceAdd, List.set_cons_zero, List.set_cons_succ, *]; done) | (simp only [List.append_assoc, List.cons_append, List.nil_append, List.length_append, List.length_cons, List.length_nil, Nat.zero_add, Nat.add_zero, Nat.reduceAdd, List.set_cons_zero, List.set_cons_succ, *]; rfl) | exact AF (by rfl) (by rfl) (by simp only [List.append_assoc, List.cons_append, List.nil_append, List.length_append, List.length_cons, List.length_nil, Nat.zero_add, Nat.add_zero, Nat.reduceAdd, List.set_cons_zero, List.set_cons_succ, DI, Ab]; first | done | rfl) | exact AZ (by rfl) (by rfl) (by simp only [List.append_assoc, List.cons_append, List.nil_append, List.length_append, List.length_cons, List.length_nil, Nat.zero_add, Nat.add_zero, Nat.reduceAdd, List.set_cons_zero, List.set_cons_succ, DI, Ab]; first | done | rfl))) : a = b := h
theorem dW {α : Type} {a b : α} (h : a = b := by exact (by first | (simp only [*]; done) | (simp only [*]; rfl) | (simp only [storeV, Ki, JY, V.cells, *]; first | done | rfl) | (simp only [storeV, List.append_assoc, List.cons_append, List.nil_append, List.length_append, List.length_cons, List.length_nil, Nat.zero_add, Nat.add_zero, Nat.reduceAdd, List.set_cons_zero, List.set_cons_succ, Ki, JY, V.cells, *]; first | done | rfl))) : a = b := h
theorem Qg (hs : CP T ρ h op v h' := by first | exact Ol eLk | exact JV eLk | exact EC eLk eLk aN | exact Jn eLk NF | exact Lf eLk (by rfl) | exact Lg eLk eLk NF | exact Oj eLk eLk (by rfl) (by simp only [Int.reduceToNat, Nat.reduceMul, Nat.reduceAdd, Nat.zero_add]; rfl) | exact MV eLk UL | exact Ld (by rfl) | exact Eg eLk eLk dW | exact WH eLk | exact MW eLk eLk eLk (by simp only [reduceIte, Bool.false_eq_true, *]; first | done | rfl) | exact Lh Ib eLk eLk | exact NS Ib eLk eLk | exact bV eLk (by rfl) | exact II eLk (by rfl) | exact RY rfl eLk | exact Oi (by rfl) eLk (by rfl) (by simp only [V.cells]; first | done | rfl) | exact RX (by rfl) (by rfl) rfl eLk | exact NR (by rfl) rfl eLk (by rfl) | exact NT (by rfl) rfl (by rfl) eLk eLk eLk eLk NF | exact Hh (by rfl) rfl (by rfl) (by first | exact rfl | rfl) | exact Cy (by rfl) rfl (by rfl) eLk (by decide) (by rfl)) : CP T ρ h op v h' := hs
structure Kept (p : Prop) : Prop where
 val : p
theorem Bs (hw : wqL P T ops (⟨d, op, t, p, af, none⟩ :: rest) Q ρ h) : wqL P T ops (⟨d, op, t, p, af, none⟩ :: rest) Q ρ h := hw
theorem Bz (hw : wqD P T ops k (⟨d, op, t, p, af, none⟩ :: rest) Q ρ h) : wqD P T ops k (⟨d, op, t, p, af, none⟩ :: rest) Q ρ h := hw
theorem CG {g : Nat × Bool} (hw : wqL P T ops (⟨d, op, t, p, af, some g⟩ :: rest) Q ρ h) : wqL P T ops (⟨d, op, t, p, af, some g⟩ :: rest) Q ρ h := hw
theorem CF {g : Nat × Bool} (hw : wqD P T ops k (⟨d, op, t, p, af, some g⟩ :: rest) Q ρ h) : wqD P T ops k (⟨d, op, t, p, af, some g⟩ :: rest) Q ρ h := hw
theorem CH (hw : wqL P T ops rest Q (ρ.put d v) h') (hs : CP T ρ h op v h' := by exact Qg) : wqL P T ops (⟨d, op, t, p, af, none⟩ :: rest) Q ρ h := BC hs hw
theorem CZ (hw : wqD P T ops (k + 1) rest Q (ρ.put d v) h') (hs : CP T ρ h op v h' := by exact Qg) : wqD P T ops k (⟨d, op, t, p, af, none⟩ :: rest) Q ρ h := CU hs hw
theorem iA {ps : List DZ} (hw : wqE P T ops (k + 1) rest ps Q (ρ.put d v) h) (hl : CL ops k = false := by decide +kernel) (hp : ∀ p ∈ ps, p.holds T h := by exact (by intro p hp; (repeat (rcases List.mem_cons.1 hp with rfl | hp; exact IF eLk UL)); exact absurd hp List.not_mem_nil)) (hs : CP T ρ h op v h := by exact Qg) : wqE P T ops k (⟨d, op, t, p, af, none⟩ :: rest) ps Q ρ h := YR hl hp hs hw
theorem fT {ps : List DZ} (hw : wqE P T ops (k + 1) rest ps Q (ρ.put d v) h') (hl : CL ops k = false := by decide +kernel) (hs : CP T ρ h op v h' := by first | exact Ol eLk | exact JV eLk | exact EC eLk eLk aN | exact Jn eLk NF | exact Lf eLk (by rfl) | exact Lg eLk eLk NF | exact Oj eLk eLk (by rfl) (by simp only [Int.reduceToNat, Nat.reduceMul, Nat.reduceAdd, Nat.zero_add]; rfl) | exact MV eLk UL | exact Ld (by rfl) | exact Eg eLk eLk dW | exact WH eLk | exact MW eLk eLk eLk (by simp only [reduceIte, Bool.false_eq_true, *]; first | done | rfl) | exact Lh Ib eLk eLk | exact NS Ib eLk eLk | exact bV eLk (by rfl) | exact II eLk (by rfl) | exact RY rfl eLk | exact Oi (by rfl) eLk (by rfl) (by simp only [V.cells]; first | done | rfl) | exact RX (by rfl) (by rfl) rfl eLk | exact NR (by rfl) rfl eLk (by rfl) | exact NT (by rfl) rfl (by rfl) eLk eLk eLk eLk NF | exact Hh (by rfl) rfl (by rfl) (by first | exact rfl | rfl) | exact Cy (by rfl) rfl (by rfl) eLk (by decide) (by rfl)) (hp : ∀ p ∈ ps, p.holds T h' := by exact (by intro p hp; (repeat (rcases List.mem_cons.1 hp with rfl | hp; exact IF eLk UL)); exact absurd hp List.not_mem_nil)) : wqE P T ops k (⟨d, op, t, p, af, none⟩ :: rest) ps Q ρ h := VV hl hs hp hw
theorem fS {ps : List DZ} (hw : wqE P T ops (k + 1) rest (⟨ρ, op, v⟩ :: ps) Q (ρ.put d v) h) (hl : CL ops k = true := by decide +kernel) (hp : ∀ p ∈ ps, p.holds T h := by exact (by intro p hp; (repeat (rcases List.mem_cons.1 hp with rfl | hp; exact IF eLk UL)); exact absurd hp List.not_mem_nil)) (hs : CP T ρ h op v h := by first | exact Ol eLk | exact JV eLk | exact EC eLk eLk aN | exact Jn eLk NF | exact Lf eLk (by rfl) | exact Lg eLk eLk NF | exact Oj eLk eLk (by rfl) (by simp only [Int.reduceToNat, Nat.reduceMul, Nat.reduceAdd, Nat.zero_add]; rfl) | exact MV eLk UL | exact Ld (by rfl) | exact Eg eLk eLk dW | exact WH eLk | exact MW eLk eLk eLk (by simp only [reduceIte, Bool.false_eq_true, *]; first | done | rfl) | exact Lh Ib eLk eLk | exact NS Ib eLk eLk | exact bV eLk (by rfl) | exact II eLk (by rfl) | exact RY rfl eLk | exact Oi (by rfl) eLk (by rfl) (by simp only [V.cells]; first | done | rfl) | exact RX (by rfl) (by rfl) rfl eLk | exact NR (by rfl) rfl eLk (by rfl) | exact NT (by rfl) rfl (by rfl) eLk eLk eLk eLk NF | exact Hh (by rfl) rfl (by rfl) (by first | exact rfl | rfl) | exact Cy (by rfl) rfl (by rfl) eLk (by decide) (by rfl)) (hu : v.under h.length = true := by rfl) : wqE P T ops k (⟨d, op, t, p, af, none⟩ :: rest) ps Q ρ h := YP hl hp hs hu hw
theorem BO {j e : Nat} {w : Bool} (hw : wqL P T ops (⟨d, op, t, p, af, none⟩ :: rest) Q ρ h) (h1 : (ops[j]?).bind (·.dst) = some e := by rfl) (h2 : ρ.ev (.tmp e) = some (.bool w) := by exact Ib) : wqL P T ops (⟨d, op, t, p, af, some (j, w)⟩ :: rest) Q ρ h := eE (ES h1 h2) hw
theorem BS {j e : Nat} {w : Bool} (hw : wqD P T ops k (⟨d, op, t, p, af, none⟩ :: rest) Q ρ h) (h1 : (ops[j]?).bind (·.dst) = some e := by rfl) (h2 : ρ.ev (.tmp e) = some (.bool w) := by exact Ib) : wqD P T ops k (⟨d, op, t, p, af, some (j, w)⟩ :: rest) Q ρ h := dQ (ES h1 h2) hw
theorem At {j e : Nat} {w : Bool} (hw : wqL P T ops rest Q (ρ.put d V.undef) h) (h1 : (ops[j]?).bind (·.dst) = some e := by rfl) (h2 : ρ.ev (.tmp e) = some (.bool !w) := by exact Ib) : wqL P T ops (⟨d, op, t, p, af, some (j, w)⟩ :: rest) Q ρ h := Yq (ES h1 h2) hw (by cases w <;> rfl)
theorem Aw {j e : Nat} {w : Bool} (hw : wqD P T ops (k + 1) rest Q (ρ.put d V.undef) h) (h1 : (ops[j]?).bind (·.dst) = some e := by rfl) (h2 : ρ.ev (.tmp e) = some (.bool !w) := by exact Ib) : wqD P T ops k (⟨d, op, t, p, af, some (j, w)⟩ :: rest) Q ρ h := YK (ES h1 h2) hw (by cases w <;> rfl)
theorem Br {j e : Nat} {b w : Bool} (h1 : b = w → wqL P T ops (⟨d, op, t, p, af, none⟩ :: rest) Q ρ h) (h2 : b = !w → wqL P T ops rest Q (ρ.put d V.undef) h) (h3 : (ops[j]?).bind (·.dst) = some e := by rfl) (h4 : ρ.ev (.tmp e) = some (.bool b) := by exact eLk) : wqL P T ops (⟨d, op, t, p, af, some (j, w)⟩ :: rest) Q ρ h := by
 cases w
 ·exact aZ (ES h3 h4) h1 h2
 ·exact eF (ES h3 h4) h1 h2
theorem Bp {j e : Nat} {b w : Bool} (h1 : b = w → wqD P T ops k (⟨d, op, t, p, af, none⟩ :: rest) Q ρ h) (h2 : b = !w → wqD P T ops (k + 1) rest Q (ρ.put d V.undef) h) (h3 : (ops[j]?).bind (·.dst) = some e := by rfl) (h4 : ρ.ev (.tmp e) = some (.bool b) := by exact eLk) : wqD P T ops k (⟨d, op, t, p, af, some (j, w)⟩ :: rest) Q ρ h := by
 cases w
 ·exact aK (ES h3 h4) h1 h2
 ·exact dR (ES h3 h4) h1 h2
theorem AE {x y : Code} {Q : Exit → Rho → Heap → Prop} {c : Operand} {b : Bool} (h1 : b = true → wq P T x Q ρ h) (h2 : b = false → wq P T y Q ρ h) (hb : ρ.ev c = some (.bool b) := by exact eLk) : wq P T (.cond c x y) Q ρ h := Rm hb h1 h2
theorem AA {g : Nat} {args : List V} (hcall : Call P g args h v h') (hw : wqL P T ops rest Q (ρ.put d v) h') (hc : callsWhom ρ op = some (g, args) := by exact (by simp only [callsWhom, beq_self_eq_true, bne_self_eq_false, Ic, FA, GG, V.of, V.ofs, AD, AB, BT, reduceIte, Nat.reduceEqDiff, reduceCtorEq, List.getD_cons_zero, List.getD_cons_succ, evs, optEv, evParts, Option.map_some, List.cons_append, List.nil_append, List.append_nil, List.append_assoc, Nat.zero_add, Nat.add_zero, *]; first | done | rfl)) : wqL P T ops (⟨d, op, t, p, af, none⟩ :: rest) Q ρ h := Yp hc hcall hw
theorem AI {g : Nat} {args : List V} (hcall : Call P g args h v h) (hw : wqD P T ops (k + 1) rest Q (ρ.put d v) h) (hc : callsWhom ρ op = some (g, args) := by exact (by simp only [callsWhom, beq_self_eq_true, bne_self_eq_false, Ic, FA, GG, V.of, V.ofs, AD, AB, BT, reduceIte, Nat.reduceEqDiff, reduceCtorEq, List.getD_cons_zero, List.getD_cons_succ, evs, optEv, evParts, Option.map_some, List.cons_append, List.nil_append, List.append_nil, List.append_assoc, Nat.zero_add, Nat.add_zero, *]; first | done | rfl)) : wqD P T ops k (⟨d, op, t, p, af, none⟩ :: rest) Q ρ h := Qe hc hcall hw
theorem Be {g : Nat} {args : List V} (hcall : Call P g args h v h') (hz : h <+: h' ∨ (h.length ≤ h'.length ∧ Cv ops k = true)) (hw : wqD P T ops (k + 1) rest Q (ρ.put d v) h') (hc : callsWhom ρ op = some (g, args) := by exact (by simp only [callsWhom, beq_self_eq_true, bne_self_eq_false, Ic, FA, GG, V.of, V.ofs, AD, AB, BT, reduceIte, Nat.reduceEqDiff, reduceCtorEq, List.getD_cons_zero, List.getD_cons_succ, evs, optEv, evParts, Option.map_some, List.cons_append, List.nil_append, List.append_nil, List.append_assoc, Nat.zero_add, Nat.add_zero, *]; first | done | rfl)) : wqD P T ops k (⟨d, op, t, p, af, none⟩ :: rest) Q ρ h := YJ hc hcall hz hw
theorem EG {a b : V} {xs : Array Operand} {t1 t2 : Nat} {e : Nat} {i ie : TI} {n : Nat} {news : List V} (hn : newsOf T ie t2 b h = some (n, news)) (ha : appendV ie a n news h = some (v, h')) (hw : wqL P T ops rest Q (ρ.put d v) h') (hx : evs ρ.ev xs.toList = some [a, b] := by exact eLk) (hT : T t1 = some i := by rfl) (hk : i.k = .slice e := by rfl) (hE : T e = some ie := by rfl) :
  wqL P T ops (⟨d, .call { callee := .builtin .append, args := xs, argTypes := #[t1, t2] }, t, p, af, none⟩ :: rest) Q ρ h := BC (JU hx hT hk hE hn ha) hw
theorem LN {t' e : Nat} {i ie : TI} {x y : Operand} {kx ky : IntKind} {n c : Int} (hT : T t' = some i) (hk : i.k = .slice e) (hE : T e = some ie) (hw : wqL P T ops rest Q (ρ.put d (.slc h.length 0 n.toNat c.toNat true ie.size)) (h ++ [.row (Bw ie.zero c.toNat) true]))
  (hx : ρ.ev x = some (.int kx n) := by exact eLk) (hy : ρ.ev y = some (.int ky c) := by exact eLk) (hb : 0 ≤ n ∧ n ≤ c ∧ (ie.bytes : Int) * c ≤ 2 ^ 48 ∧ c ≤ IntKind.i64.max := by (simp only [IntKind.max, IntKind.signed, IntKind.bits]; omega)) : wqL P T ops (⟨d, .makeSlice t' x y, t, p, af, none⟩ :: rest) Q ρ h := BC (Fs hT hk hE hx hy hb) hw
theorem goW {p q : Prop} (hq : q) (h : Kept q → p := by intro hq; (repeat (first | (refine Bs ?_; refine CH ?_) | (refine Bz ?_; refine CZ ?_) | (refine CG ?_; first | refine BO ?_ | refine At ?_) | (refine CF ?_; first | refine BS ?_ | refine Aw ?_) | refine AO ?_ | refine AK ?_ | refine Ae (by decide +kernel) ?_ | refine AW ?_ | refine BN ?_ | refine BM ?_ | refine Ah ?_ | refine As ?_ | refine Ag ?_ | refine AR ?_ | refine Ar ?_ | refine Ad ?_ | refine AS ?_ | refine Aq ?_ | refine Ac ?_ | refine AV rfl ?_)); exact hq.val) : p := h ⟨hq⟩
theorem Ai {rs : List ResultVar} {v v' : V} {h0 : Heap} (e : v' = v) (hv : resRf T rs ρ h = some v' := by simp only [resRf, resRs, resR]; first | done | rfl) (hp : h0 <+: h := by first | exact List.prefix_refl _ | exact List.prefix_append _ _ | assumption | (refine List.IsPrefix.trans (by assumption) (List.prefix_append _ _)) | (simp only [List.append_assoc, List.cons_append, List.nil_append, List.set_cons_zero, List.set_cons_succ]; exact ⟨_, by simp only [List.append_assoc, List.cons_append, List.nil_append]; rfl⟩)) : EndR T rs (fun w h' => w = v ∧ h0 <+: h') .ret ρ h := AL hv ⟨e, hp⟩
end Go.Proofs.YtncjbjlmgnjhiaaGreat.VM
namespace Go.Proofs.YtncjbjlmgnjhiaaGreat.VM
open Go
set_option linter.unusedVariables false
set_option linter.unusedSimpArgs false
variable {P : Program} {T : Tab} {α β : Type}
def Nb (v : V) (H H' : Heap) : Prop := H.length ≤ H'.length ∧ ∀ c, c < H.length → v.blk ≠ some c → H'[c]? = H[c]?
def VL (v : V) (H : Heap) (v' : V) : Prop := ∀ b, v'.blk = some b → v.blk = some b ∨ H.length ≤ b
theorem Own.blk {sz : Nat} {R : List V → α → Prop} {H : Heap} {b : Nat} {v : V} {xs : List α} (h : Own sz R H b v xs) : v.blk = some b := by
 obtain ⟨cap, t, cs, rfl, _⟩ := h; rfl
theorem BR.app {sz : Nat} {R : List V → α → Prop} {B H : Heap} {v : V} {xs ys : List α} {news : List V} {ie : TI} (h : BR sz R B H v xs) (hs : ie.size = sz) (hn : Cells sz R news ys)
  (hb : (xs.length + ys.length) * ie.bytes ≤ 2 ^ 47 ∧ xs.length + ys.length ≤ 2 ^ 47) : ∃ v' H', appendV ie v ys.length news H = some (v', H') ∧ BR sz R B H' v' (xs ++ ys) ∧ Nb v H H' ∧ VL v H v' := by
 obtain ⟨hp, h⟩ := h
 rcases h with ⟨rfl, rfl⟩ | ⟨b, hb1, ho⟩
 ·by_cases h0 : ys.length = 0
  ·have : ys = [] := List.length_eq_zero_iff.1 h0
   subst this
   have hn0 : news = [] := List.length_eq_zero_iff.1 (by rw [hn.1]; simp)
   subst hn0
   exact ⟨.AN, H, by simp [appendV], BR.nil hp, ⟨Nat.le_refl _, fun _ _ _ => rfl⟩, fun b hb => by cases hb⟩
  ·refine ⟨.slc H.length 0 ys.length ys.length false sz, H ++ [.row news true], ?_, Dj hp hn, ⟨by simp, fun c hc _ => List.getElem?_append_left hc⟩, fun b hb => by cases hb; exact .inr (Nat.le_refl _)⟩
   unfold appendV
   rw [hs, if_neg (by rw [hn.1]; simp)]
   simp only
   rw [if_neg h0, if_pos (by simpa using hb)]
 ·obtain ⟨v', b', H', h1, h2, h3, h4⟩ := Ka ho hs hn hb
  refine ⟨v', H', h1, ⟨h3.pre hp hb1, .inr ⟨b', ?_, h2⟩⟩, ⟨h3.1, fun c hc hne => h3.2 c hc fun e => hne (by rw [ho.blk, e])⟩, fun c hc => ?_⟩
  ·have := hp.length_le; omega
  ·rw [h2.blk] at hc
   cases hc
   rcases h4 with rfl | h4
   ·exact .inl ho.blk
   ·exact .inr h4
theorem Nb.sl {sz : Nat} {R : List V → β → Prop} {v u : V} {H H' : Heap} {zs : List β} (hk : Nb v H H') (h : Sl sz R H u zs) (ha : Fb v u) : Sl sz R H' u zs :=
 h.fr fun c hc hu => hk.2 c hc fun e => ha c c e hu rfl
theorem VL.apart {sz : Nat} {R : List V → β → Prop} {v v' u : V} {H : Heap} {zs : List β} (hm : VL v H v') (h : Sl sz R H u zs) (ha : Fb v u) : Fb v' u := fun b c hb hc => by
 rcases hm b hb with h1 | h1
 ·exact ha b c h1 hc
 ·have := h.lt hc; omega
theorem Fx {t b : Nat} {i : TI} {H : Heap} {cs : List V} {w : Bool} (hT : T t = some i) (ha : i.k.agg = true) (hg : H[b]? = some (.row cs w)) (hl : cs.length = i.size) : loadV T t H b 0 = some (.agg cs) := by
 refine AZ hT ha ?_
 unfold Heap.loadN
 rw [hg]
 simp only
 rw [if_pos (by omega), List.drop_zero, ← hl, List.take_of_length_le (Nat.le_refl _)]
theorem AU {t b q : Nat} {i : TI} {H : Heap} {cs : List V} {w : Bool} {v : V} (hT : T t = some i) (ha : i.k.agg = false) (hg : H[b]? = some (.row cs w)) (hq : cs[q]? = some v) : loadV T t H b q = some v := by
 refine AF hT ha ?_
 obtain ⟨hlt, rfl⟩ := List.getElem?_eq_some_iff.1 hq
 unfold Heap.loadN
 rw [hg]
 simp only
 rw [if_pos (by omega), List.drop_eq_getElem_cons hlt]
 rfl
theorem Jk {B H : Heap} {b : Nat} {k : Blk} (hp : B <+: H) (hb : B.length ≤ b) : B <+: H.set b k := by
 refine List.prefix_iff_getElem?.2 fun i hi => ?_
 rw [List.getElem?_set_ne (by omega)]
 exact List.prefix_iff_getElem?.1 hp i hi
theorem CM {B H : Heap} {b : Nat} {k : Blk} (hp : B <+: H) (h : B[b]? = some k) : H[b]? = some k := by
 obtain ⟨l, rfl⟩ := hp
 rw [List.getElem?_append_left (List.getElem?_eq_some_iff.1 h).1]; exact h
theorem Sl.cells {sz : Nat} {R : List V → α → Prop} {H : Heap} {v : V} {xs : List α} (h : Sl sz R H v xs) : v.cells = [v] ∧ v.isTup = false := by
 rcases h.two with rfl | ⟨_, _, _, _, _, _, rfl⟩ <;> exact ⟨rfl, rfl⟩
end Go.Proofs.YtncjbjlmgnjhiaaGreat.VM
namespace Go.Proofs.YtncjbjlmgnjhiaaGreat.VM
open Go
set_option linter.unusedVariables false
set_option linter.unusedSimpArgs false
set_option linter.unusedSectionVars false
variable {P : Program} {T : Tab}
def Jm (l : Nat) (J : Env → Heap → Prop) (Q : Exit → Env → Heap → Prop) : Exit → Env → Heap → Prop
 | .goto l', e, h => l' = l ∧ J e h
 | x, e, h => Q x e h
def wpJ (P : Program) (T : Tab) (l : Nat) (rest : Code) (Q : Exit → Env → Heap → Prop) : Nat → Code → Env → Heap → Prop
 | 0, c, e, h => wp P T c (Jm l (fun _ _ => False) Q) e h
 | n + 1, c, e, h => wp P T c (Jm l (wpJ P T l rest Q n rest) Q) e h
theorem OG (p : Nat → Prop) : (∃ k, p k) → ∃ k, p k ∧ ∀ j, p j → k ≤ j := by
 rintro ⟨k, hk⟩
 induction k using Nat.strongRecOn with
 | _ k ih =>
  by_cases h : ∃ j, j < k ∧ p j
  ·obtain ⟨j, hj, hp⟩ := h
   exact ih j hj hp
  ·exact ⟨k, hk, fun j hj => Nat.le_of_not_lt fun hlt => h ⟨j, hlt, hj⟩⟩
noncomputable def leastOf (p : Nat → Prop) (h : ∃ k, p k) : Nat := Classical.choose (OG p h)
theorem Qz (p : Nat → Prop) (h : ∃ k, p k) : p (leastOf p h) := (Classical.choose_spec (OG p h)).1
theorem Sj (p : Nat → Prop) (h : ∃ k, p k) {j : Nat} (hj : p j) : leastOf p h ≤ j := (Classical.choose_spec (OG p h)).2 j hj
theorem cQ (fit : Fits P T) (hm : P.follows .mixedOrders = true) {l : Nat} {c rest : Code} (hl : findLabel c l = some rest) {Q : Exit → Env → Heap → Prop} {n : Nat} {e : Env} {h : Heap} (hw : wpJ P T l rest Q n c e h)
  {μ : Mu} {a : Act} {w : World} (s : Sim μ h w) (he : FR μ e a.tmps) (hd : a.defers = []) : (Code.scope c).wp P (ND Q μ h w) a w := by
 have hlt : ∀ b x, μ b = some x → b < h.length := fun b x hx => (s.lt b x hx).1
 -- what holds at a jump with at most k jumps to come
 let J : Nat → Act → World → Prop := fun k a' w' => ∃ e' h' μ', wpJ P T l rest Q k rest e' h' ∧ Sim μ' h' w' ∧ FR μ' e' a'.tmps ∧ a'.defers = [] ∧ Tr μ h w μ' h' w'
 -- one stretch of the run
 have stretch : ∀ (k : Option Nat) (c' : Code) (e1 : Env) (h1 : Heap) (μ1 : Mu) (a1 : Act) (w1 : World),
   wp P T c' (Jm l (match k with | none => fun _ _ => False | some k => wpJ P T l rest Q k rest) Q) e1 h1 → Sim μ1 h1 w1 → FR μ1 e1 a1.tmps → a1.defers = [] → Tr μ h w μ1 h1 w1 →
   c'.wp P (Exit.jump l (fun a' w' => ∃ k', k = some k' ∧ J k' a' w') (ND Q μ h w)) a1 w1 := by
  intro k c' e1 h1 μ1 a1 w1 hw1 s1 he1 hd1 t1
  refine Code.wp_mono ?_ (VE fit hm c' _ _ _ hw1 μ1 a1 w1 s1 he1 hd1)
  intro x a2 w2 p
  obtain ⟨e2, h2, μ2, q, s2, he2, t2, hd2⟩ := p
  have t := t1.trans t2 hlt
  cases x with
  | goto l' =>
   obtain ⟨rfl, q⟩ := q
   refine ⟨rfl, ?_⟩
   cases k with
   | none => exact q.elim
   | some k => exact ⟨k, rfl, e2, h2, μ2, q, s2, he2, hd2, t⟩
  | normal => exact ⟨e2, h2, μ2, q, s2, he2, t, hd2⟩
  | exit id => exact ⟨e2, h2, μ2, q, s2, he2, t, hd2⟩
  | ret => exact ⟨e2, h2, μ2, q, s2, he2, t, hd2⟩
  | panic ch => exact ⟨e2, h2, μ2, q, s2, he2, t, hd2⟩
  | outgrown => exact ⟨e2, h2, μ2, q, s2, he2, t, hd2⟩
 classical
 refine wp_scope_jumps l (fun a w => ∃ k, J k a w) (fun a w => if hx : ∃ k, J k a w then leastOf _ hx else 0) hl ?_ ?_
 ·have h0 : c.wp P (Exit.jump l (fun a' w' => ∃ k', (match n with | 0 => none | k + 1 => some k) = some k' ∧ J k' a' w') (ND Q μ h w)) a w := by
   cases n with
   | zero => exact stretch none c e h μ a w hw s he hd (Tr.refl _ _ _)
   | succ n => exact stretch (some n) c e h μ a w hw s he hd (Tr.refl _ _ _)
  refine Code.wp_mono ?_ h0
  intro x a' w' q
  cases x with
  | goto l' => exact ⟨q.1, let ⟨k', _, hj⟩ := q.2; ⟨k', hj⟩⟩
  | _ => exact q
 ·intro a1 w1 hx
  have hmin := Qz _ hx
  obtain ⟨e1, h1, μ1, q1, s1, he1, hd1, t1⟩ := hmin
  have h0 : rest.wp P (Exit.jump l (fun a' w' => ∃ k', (match leastOf _ hx with | 0 => none | k + 1 => some k) = some k' ∧ J k' a' w') (ND Q μ h w)) a1 w1 := by
   cases hk : leastOf _ hx with
   | zero => rw [hk] at q1; exact stretch none rest e1 h1 μ1 a1 w1 q1 s1 he1 hd1 t1
   | succ k => rw [hk] at q1; exact stretch (some k) rest e1 h1 μ1 a1 w1 q1 s1 he1 hd1 t1
  refine Code.wp_mono ?_ h0
  intro x a' w' q
  cases x with
  | goto l' =>
   obtain ⟨k', hk', hj⟩ := q.2
   refine ⟨q.1, ⟨k', hj⟩, ?_⟩
   have hx' : ∃ k, J k a' w' := ⟨k', hj⟩
   show (if hx : ∃ k, J k a' w' then leastOf _ hx else 0) < (if hx : ∃ k, J k a1 w1 then leastOf _ hx else 0)
   rw [dif_pos hx', dif_pos hx]
   have hle : leastOf _ hx' ≤ k' := Sj _ hx' hj
   cases hk : leastOf _ hx with
   | zero => rw [hk] at hk'; cases hk'
   | succ k => rw [hk] at hk'; cases hk'; omega
  | _ => exact q
theorem Zg (fit : Fits P T) (hm : P.follows .mixedOrders = true) {l : Nat} {b c rest : Code} (hl : findLabel c l = some rest) {Q : Exit → Env → Heap → Prop} {n : Nat} {e : Env} {h : Heap} (hw : wp P T b (Ex.then (wpJ P T l rest Q n c) Q) e h)
  {μ : Mu} {a : Act} {w : World} (s : Sim μ h w) (he : FR μ e a.tmps) (hd : a.defers = []) : (Code.seq b (.scope c)).wp P (ND Q μ h w) a w := by
 refine Go.wp_seq (Code.wp_mono ?_ (VE fit hm b _ e h hw μ a w s he hd))
 intro ex a' w' p
 obtain ⟨e', h', μ', q, s', he', t', hd'⟩ := p
 cases ex with
 | normal =>
  refine Code.wp_mono (fun ex2 a2 w2 p2 => ?_) (cQ fit hm hl q s' he' hd')
  exact p2.trans t' (fun b x hx => (s.lt b x hx).1)
 | exit id => exact ⟨e', h', μ', q, s', he', t', hd'⟩
 | goto l => exact ⟨e', h', μ', q, s', he', t', hd'⟩
 | ret => exact ⟨e', h', μ', q, s', he', t', hd'⟩
 | panic ch => exact ⟨e', h', μ', q, s', he', t', hd'⟩
 | outgrown => exact ⟨e', h', μ', q, s', he', t', hd'⟩
theorem Rv (fit : Fits P T) (hm : P.follows .mixedOrders = true) {f : Nat} {fn : Func} {b c rest : Code} {l n : Nat} {args : List V} {H H' : Heap} {v : V} (hf : P.funcs[f]? = some fn) (hb : fn.body = some (.seq b (.scope c))) (hn : (fn.name == "runtime.NumGoroutine") = false)
  (hl : findLabel c l = some rest) (h : wp P T b (Ex.then (wpJ P T l rest (Ends T fn v H') n c) (Ends T fn v H')) (args ++ List.replicate (fn.ntmps - args.length) V.undef) H) : Call P f args H v H' := by
 refine ⟨⟨fn, hf, by rw [hb]; rfl, hn⟩, fun μ w cargs s hargs => ?_⟩
 have hlen : cargs.size = args.length := by simpa using hargs.length
 have he : FR μ (args ++ List.replicate (fn.ntmps - args.length) V.undef) (cargs ++ Array.replicate (fn.ntmps - cargs.size) Go.undef) := by
  unfold FR
  rw [Array.toList_append, Array.toList_replicate, hlen]
  exact hargs.append (VRs.Zv _)
 refine calls_of_wp hf hb (Code.wp_mono ?_ (Zg fit hm hl h s he rfl))
 intro ex a' w' p
 obtain ⟨e', h', μ', q, s', he', t', hd'⟩ := p
 cases ex <;> simp only [Ends] at q
 case normal =>
  obtain ⟨q1, rfl⟩ := q
  obtain ⟨cv, k1, k2⟩ := HO fit s' he' q1
  exact ⟨hd', cv, k1, cv, μ', rfl, k2, s', t'⟩
 case ret =>
  obtain ⟨q1, rfl⟩ := q
  obtain ⟨cv, k1, k2⟩ := HO fit s' he' q1
  exact ⟨hd', cv, k1, cv, μ', rfl, k2, s', t'⟩
def Jq (l : Nat) (J : Rho → Heap → Prop) (Q : Exit → Rho → Heap → Prop) : Exit → Rho → Heap → Prop
 | .goto l', ρ, h => l' = l ∧ J ρ h
 | x, ρ, h => Q x ρ h
def wqJ (P : Program) (T : Tab) (l : Nat) (rest : Code) (Q : Exit → Rho → Heap → Prop) : Nat → Code → Rho → Heap → Prop
 | 0, c, ρ, h => wq P T c (Jq l (fun _ _ => False) Q) ρ h
 | n + 1, c, ρ, h => wq P T c (Jq l (wqJ P T l rest Q n rest) Q) ρ h
theorem Zx {l : Nat} {rest : Code} {Q : Exit → Rho → Heap → Prop} : ∀ (n : Nat) (c : Code) {ρ : Rho} {h : Heap}, wqJ P T l rest Q n c ρ h → ∃ x ρ' h', Q x ρ' h' ∧ (∀ l', x ≠ .goto l') ∧ wqJ P T l rest (fun x1 ρ1 h1 => x1 = x ∧ ρ1 = ρ' ∧ h1 = h') n c ρ h
 | 0, c, ρ, h, hw => by
  obtain ⟨x, ρ', h', q, r⟩ := WS c hw
  cases x with
  | goto l' => exact q.2.elim
  | _ => exact ⟨_, ρ', h', q, nofun, Bt c (fun x1 ρ1 h1 e => by obtain ⟨rfl, rfl, rfl⟩ := e; exact ⟨rfl, rfl, rfl⟩) r⟩
 | n + 1, c, ρ, h, hw => by
  obtain ⟨x, ρ', h', q, r⟩ := WS c hw
  cases x with
  | goto l' =>
   obtain ⟨rfl, q⟩ := q
   obtain ⟨x2, ρ2, h2, q2, ng, r2⟩ := Zx n rest q
   exact ⟨x2, ρ2, h2, q2, ng, Bt c (fun x1 ρ1 h1 e => by obtain ⟨rfl, rfl, rfl⟩ := e; exact ⟨rfl, r2⟩) r⟩
  | _ => exact ⟨_, ρ', h', q, nofun, Bt c (fun x1 ρ1 h1 e => by obtain ⟨rfl, rfl, rfl⟩ := e; exact ⟨rfl, rfl, rfl⟩) r⟩
theorem Zz {m l : Nat} {rest : Code} (hrest : codeOk m rest = true) {Q : Exit → Rho → Heap → Prop} {Q' : Exit → Env → Heap → Prop} (hQ : ∀ x ρ e h, EL m ρ e → Q x ρ h → Q' x e h) : ∀ (n : Nat) (c : Code), codeOk m c = true → ∀ (ρ : Rho) (e : Env) (h : Heap), EL m ρ e → wqJ P T l rest Q n c ρ h → wpJ P T l rest Q' n c e h
 | 0, c, hc, ρ, e, h, ha, hw => WT c hc _ _ (fun x ρ e h ha q => by
   cases x with
   | goto l' => exact q
   | _ => exact hQ _ ρ e h ha q) ρ e h ha hw
 | n + 1, c, hc, ρ, e, h, ha, hw => WT c hc _ _ (fun x ρ e h ha q => by
   cases x with
   | goto l' => exact ⟨q.1, Zz hrest hQ n rest hrest ρ e h ha q.2⟩
   | _ => exact hQ _ ρ e h ha q) ρ e h ha hw
theorem YD (fit : Fits P T) (hm : P.follows .mixedOrders = true) {f : Nat} {fn : Func} {b c rest : Code} {l : Nat} (n : Nat) {args : List V} {H : Heap} {R : V → Heap → Prop} {rs : List ResultVar} (hf : P.funcs[f]? = some fn) (hb : fn.body = some (.seq b (.scope c))) (hn : (fn.name == "runtime.NumGoroutine") = false)
  (hrs : fn.results = ⟨rs⟩) (hl : findLabel c l = some rest) (hok : Ig fn b args.length = true) (hokc : codeOk fn.ntmps c = true) (hok2 : codeOk fn.ntmps rest = true) (h : wq P T b (Th (wqJ P T l rest (EndR T rs R) n c) (EndR T rs R)) (MT args) H) : ∃ v H', R v H' ∧ Call P f args H v H' := by
 obtain rfl : rs = fn.results.toList := by rw [hrs]
 simp only [Ig, Bool.and_eq_true, decide_eq_true_eq] at hok
 obtain ⟨⟨hc, hr⟩, hk⟩ := hok
 have ha : EL fn.ntmps (MT args) (args ++ List.replicate (fn.ntmps - args.length) V.undef) := by
  refine ⟨by simp; omega, fun t ht => ?_⟩
  unfold MT
  by_cases hta : t < args.length
  ·rw [List.getElem?_append_left hta]; simp [List.getD_eq_getElem?_getD, hta]
  ·rw [List.getElem?_append_right (by omega)]
   simp [List.getD_eq_getElem?_getD, List.getElem?_replicate]
   rw [List.getElem?_eq_none (by omega)]
   exact ⟨by omega, rfl⟩
 obtain ⟨x0, ρ0, h0, q0, r0⟩ := WS b h
 obtain ⟨x, ρ', h', q, r⟩ : ∃ x ρ' h', EndR T fn.results.toList R x ρ' h' ∧ wq P T b (Th (wqJ P T l rest (fun x1 ρ1 h1 => x1 = x ∧ ρ1 = ρ' ∧ h1 = h') n c) (fun x1 ρ1 h1 => x1 = x ∧ ρ1 = ρ' ∧ h1 = h')) (MT args) H := by
  cases x0 with
  | normal =>
   obtain ⟨x2, ρ2, h2, q2, _, r2⟩ := Zx n c q0
   exact ⟨x2, ρ2, h2, q2, Bt b (fun x1 ρ1 h1 e => by obtain ⟨rfl, rfl, rfl⟩ := e; exact r2) r0⟩
  | ret => exact ⟨.ret, ρ0, h0, q0, Bt b (fun x1 ρ1 h1 e => by obtain ⟨rfl, rfl, rfl⟩ := e; exact ⟨rfl, rfl, rfl⟩) r0⟩
  | exit id => exact False.elim q0
  | goto l => exact False.elim q0
  | panic ch => exact False.elim q0
  | outgrown => exact False.elim q0
 have q' : (x = .normal ∨ x = .ret) ∧ ∃ v, resRf T fn.results.toList ρ' h' = some v ∧ R v h' := by
  cases x <;> simp only [EndR] at q
  ·exact ⟨.inl rfl, q⟩
  ·exact ⟨.inr rfl, q⟩
 obtain ⟨hx, v, hv, hR⟩ := q'
 have key : ∀ x1 ρ1 e1 h1, EL fn.ntmps ρ1 e1 → (x1 = x ∧ ρ1 = ρ' ∧ h1 = h') → Ends T fn v h' x1 e1 h1 := by
  intro x1 ρ1 e1 h1 ha1 hq
  obtain ⟨rfl, rfl, rfl⟩ := hq
  have : resOf T fn e1 h1 = some v := by
   unfold resOf
   rw [RU ha1 hr]
   exact hv
  rcases hx with rfl | rfl <;> exact ⟨this, rfl⟩
 refine ⟨v, h', hR, Rv (n := n) fit hm hf hb hn hl (WT b hc _ _ (fun x1 ρ1 e1 h1 ha1 hq => ?_) _ _ H ha r)⟩
 cases x1 with
 | normal => exact Zz hok2 key n c hokc _ _ _ ha1 hq
 | _ => exact key _ _ _ _ ha1 hq
theorem Rw (fit : Fits P T) (hm : P.follows .mixedOrders = true) {f : Nat} {fn : Func} {b c rest : Code} {l : Nat} (n : Nat) {args : List V} {H : Heap} {v : V} {rs : List ResultVar} (hf : P.funcs[f]? = some fn) (hb : fn.body = some (.seq b (.scope c))) (hn : (fn.name == "runtime.NumGoroutine") = false)
  (hrs : fn.results = ⟨rs⟩) (hl : findLabel c l = some rest) (hok : Ig fn b args.length = true) (hokc : codeOk fn.ntmps c = true) (hok2 : codeOk fn.ntmps rest = true) (hv : v.plain = true) (h : wq P T b (Th (wqJ P T l rest (EndR T rs fun v' h' => v' = v ∧ H <+: h') n c) (EndR T rs fun v' h' => v' = v ∧ H <+: h')) (MT args) H) : Call P f args H v H := by
 obtain ⟨v', H', ⟨rfl, hp⟩, hc⟩ := YD fit hm n hf hb hn hrs hl hok hokc hok2 h
 exact hc.forget hp hv
section flow
variable {l : Nat} {J : Rho → Heap → Prop} {Q : Exit → Rho → Heap → Prop} {ρ : Rho} {h : Heap} {next : Rho → Heap → Prop}
theorem Fv (hw : Q .normal ρ h) : wq P T (.label l) Q ρ h := hw
theorem NY (hw : Q (.goto l) ρ h) : wq P T (.goto l) Q ρ h := hw
theorem NW (hw : Q (.goto l) ρ h) : Th next Q (.goto l) ρ h := hw
theorem NO (hw : J ρ h) : Jq l J Q (.goto l) ρ h := ⟨rfl, hw⟩
theorem JK (hw : Q .ret ρ h) : Jq l J Q .ret ρ h := hw
theorem Tn {rest c : Code} {n : Nat} (hw : wq P T c (Jq l (wqJ P T l rest Q n rest) Q) ρ h) : wqJ P T l rest Q (n + 1) c ρ h := hw
theorem Zy {rest c : Code} (hw : wq P T c (Jq l (fun _ _ => False) Q) ρ h) : wqJ P T l rest Q 0 c ρ h := hw
end flow
end Go.Proofs.YtncjbjlmgnjhiaaGreat.VM
namespace Go.Proofs.YtncjbjlmgnjhiaaGreat.VM
open Go
set_option linter.unusedVariables false
set_option linter.unusedSimpArgs false
variable {P : Program} {T : Tab} {α β : Type}
structure Fact where
 S : Nat → Prop
 p : Heap → Prop
 st : ∀ H H' : Heap, p H → (∀ c, S c → H'[c]? = H[c]?) → p H'
 lt : ∀ (H : Heap) c, p H → S c → c < H.length
inductive Res : Type 1 where
 | box (b : Nat) (cs : List V)
 | own {α : Type} (sz : Nat) (R : List V → α → Prop) (v : V) (xs : List α)
 | ro (F : Fact)
def Res.ok (H : Heap) : Res → Prop
 | .box b cs => H[b]? = some (.row cs true)
 | .own sz R v xs => (v = .AN ∧ xs = []) ∨ ∃ b, Own sz R H b v xs
 | .ro F => F.p H
def Res.Js (c : Nat) : Res → Prop
 | .box b _ => b = c
 | .own _ _ v _ => v.blk = some c
 | .ro F => F.S c
theorem Res.QA {H : Heap} {r : Res} (h : r.ok H) {c : Nat} (hc : r.Js c) : c < H.length := by
 cases r with
 | box b cs => cases hc; exact (List.getElem?_eq_some_iff.1 h).1
 | own sz R v xs =>
  rcases h with ⟨rfl, _⟩ | ⟨b, h⟩
  ·cases hc
  ·have := h.blk.symm.trans hc; cases this; exact h.lt
 | ro F => exact F.lt H c h hc
theorem Res.ZI {H H' : Heap} {r : Res} (h : r.ok H) (hf : ∀ c, r.Js c → H'[c]? = H[c]?) : r.ok H' := by
 cases r with
 | box b cs => exact (hf b rfl).trans h
 | own sz R v xs =>
  refine h.imp id ?_
  rintro ⟨b, h⟩
  have hb := h.blk
  obtain ⟨cap, t, cs, h0, h1, h2, h3⟩ := h
  exact ⟨b, cap, t, cs, h0, h1, (hf b hb).trans h2, h3⟩
 | ro F => exact F.st H H' h hf
structure Mem (B H : Heap) (L : List Res) : Prop where
 pre : B <+: H
 ok : ∀ r ∈ L, r.ok H
 low : ∀ r ∈ L, ∀ c, r.Js c → B.length ≤ c
 sep : L.Pairwise fun r s => ∀ c, r.Js c → ¬ s.Js c
inductive Has : List Res → Res → (Res → List Res) → Prop
 | here {r L} : Has (r :: L) r (fun x => x :: L)
 | there {r s L f} : Has L r f → Has (s :: L) r (fun x => s :: f x)
theorem Has.parts {L : List Res} {r : Res} {f : Res → List Res} (h : Has L r f) : ∃ L1 L2, L = L1 ++ r :: L2 ∧ ∀ x, f x = L1 ++ x :: L2 := by
 induction h with
 | here => exact ⟨[], _, rfl, fun _ => rfl⟩
 | there h ih =>
  obtain ⟨L1, L2, rfl, h2⟩ := ih
  exact ⟨_ :: L1, L2, rfl, fun x => by show _ :: _ = _; rw [h2]; rfl⟩
theorem Has.again {L : List Res} {r : Res} {f : Res → List Res} (h : Has L r f) (x : Res) : Has (f x) x f := by
 induction h with
 | here => exact .here
 | there h ih => exact .there ih
theorem Has.same {L : List Res} {r : Res} {f : Res → List Res} (h : Has L r f) : f r = L := by
 obtain ⟨L1, L2, rfl, h2⟩ := h.parts
 exact h2 r
inductive Take : List Res → Res → List Res → Prop
 | here {r L} : Take (r :: L) r L
 | there {r s L L'} : Take L r L' → Take (s :: L) r (s :: L')
theorem Take.perm {L L' : List Res} {r : Res} (h : Take L r L') : L.Perm (r :: L') := by
 induction h with
 | here => exact .refl _
 | there h ih => exact (ih.cons _).trans (.swap _ _ _)
theorem Mem.start (H : Heap) : Mem H H [] := ⟨List.prefix_refl _, by simp, by simp, .nil⟩
theorem Mem.get {B H : Heap} {L : List Res} {r : Res} {f : Res → List Res} (h : Mem B H L) (hh : Has L r f) : r.ok H := by
 obtain ⟨L1, L2, rfl, _⟩ := hh.parts
 exact h.ok _ (by simp)
theorem Mem.len {B H : Heap} {L : List Res} (h : Mem B H L) : B.length ≤ H.length := h.pre.length_le
theorem Mem.VB {B H H' : Heap} {L : List Res} {r r' : Res} {f : Res → List Res} (h : Mem B H L) (hh : Has L r f) (hl : H.length ≤ H'.length) (hf : ∀ c, c < H.length → ¬ r.Js c → H'[c]? = H[c]?) (ok : r'.ok H') (mv : ∀ c, r'.Js c → r.Js c ∨ H.length ≤ c) : Mem B H' (f r') := by
 obtain ⟨L1, L2, rfl, h2⟩ := hh.parts
 rw [h2]
 have hs := List.pairwise_append.1 h.sep
 have hs2 := List.pairwise_cons.1 hs.2.1
 have hB := h.pre.length_le
 have st : ∀ s ∈ L1 ++ r :: L2, (∀ c, s.Js c → ¬ r.Js c) → s.ok H' := fun s hsm hap =>
  Res.ZI (h.ok s hsm) fun c hc => hf c (Res.QA (h.ok s hsm) hc) (hap c hc)
 refine ⟨List.prefix_iff_getElem?.2 fun i hi => ?_, fun s hsm => ?_, fun s hsm c hc => ?_, List.pairwise_append.2 ⟨hs.1, List.pairwise_cons.2 ⟨fun s hsm c hc hc2 => ?_, hs2.2⟩, fun s hsm t htm c hc hc2 => ?_⟩⟩
 ·rw [hf i (by omega) fun hc => by have := h.low r (by simp) i hc; omega]
  exact List.prefix_iff_getElem?.1 h.pre i hi
 ·rcases List.mem_append.1 hsm with h1 | h1
  ·exact st s (List.mem_append_left _ h1) fun c hc hr => hs.2.2 s h1 r (by simp) c hc hr
  ·rcases List.mem_cons.1 h1 with rfl | h1
   ·exact ok
   ·exact st s (List.mem_append_right _ (List.mem_cons_of_mem _ h1)) fun c hc hr => hs2.1 s h1 c hr hc
 ·rcases List.mem_append.1 hsm with h1 | h1
  ·exact h.low s (List.mem_append_left _ h1) c hc
  ·rcases List.mem_cons.1 h1 with rfl | h1
   ·rcases mv c hc with h3 | h3
    ·exact h.low r (by simp) c h3
    ·omega
   ·exact h.low s (List.mem_append_right _ (List.mem_cons_of_mem _ h1)) c hc
 ·rcases mv c hc with h3 | h3
  ·exact hs2.1 s hsm c h3 hc2
  ·have := Res.QA (h.ok s (List.mem_append_right _ (List.mem_cons_of_mem _ hsm))) hc2; omega
 ·rcases List.mem_cons.1 htm with rfl | htm
  ·rcases mv c hc2 with h3 | h3
   ·exact hs.2.2 s hsm r (by simp) c hc h3
   ·have := Res.QA (h.ok s (List.mem_append_left _ hsm)) hc; omega
  ·exact hs.2.2 s hsm t (List.mem_cons_of_mem _ htm) c hc hc2
theorem Mem.call {B H H' : Heap} {L L' : List Res} (h : Mem B H L) (h' : Mem H H' L') : Mem B H' (L' ++ L) := by
 have hB := h.pre.length_le
 refine ⟨h.pre.trans h'.pre, fun s hs => ?_, fun s hs c hc => ?_, List.pairwise_append.2 ⟨h'.sep, h.sep, fun s hs t ht c hc hc2 => ?_⟩⟩
 ·rcases List.mem_append.1 hs with h1 | h1
  ·exact h'.ok s h1
  ·refine Res.ZI (h.ok s h1) fun c hc => ?_
   rw [List.prefix_iff_getElem?.1 h'.pre c (Res.QA (h.ok s h1) hc)]
   exact (List.getElem?_eq_getElem _).symm
 ·rcases List.mem_append.1 hs with h1 | h1
  ·have := h'.low s h1 c hc; omega
  ·exact h.low s h1 c hc
 ·have h1 := h'.low s hs c hc
  have h2 := Res.QA (h.ok t ht) hc2
  omega
theorem Mem.BH {B H H' : Heap} {L : List Res} {r : Res} (h : Mem B H L) (h' : Mem H H' [r]) : Mem B H' (r :: L) := h.call h'
theorem Mem.call2 {B H H' : Heap} {L : List Res} {r s : Res} (h : Mem B H L) (h' : Mem H H' [r, s]) : Mem B H' (r :: s :: L) := h.call h'
theorem Mem.grow {B H H' : Heap} {L : List Res} (h : Mem B H L) (hp : H <+: H') : Mem B H' L := h.call (L' := []) ⟨hp, by simp, by simp, .nil⟩
theorem Mem.new {B H : Heap} {L : List Res} (h : Mem B H L) (cs : List V) : Mem B (H ++ [.row cs true]) (.box H.length cs :: L) :=
 h.call (L' := [.box H.length cs]) ⟨List.prefix_append _ _, by simp [Res.ok], by simp [Res.Js], by simp⟩
theorem Mem.sub {B H : Heap} {L L' : List Res} (h : Mem B H L) (hs : L'.Sublist L) : Mem B H L' := ⟨h.pre, fun r hr => h.ok r (hs.subset hr), fun r hr => h.low r (hs.subset hr), h.sep.sublist hs⟩
theorem Mem.perm {B H : Heap} {L L' : List Res} (h : Mem B H L) (hs : L.Perm L') : Mem B H L' := ⟨h.pre, fun r hr => h.ok r (hs.mem_iff.2 hr), fun r hr => h.low r (hs.mem_iff.2 hr), (hs.pairwise_iff fun hab c h1 h2 => hab c h2 h1).1 h.sep⟩
theorem Mem.front {B H : Heap} {L L' : List Res} {r : Res} (h : Mem B H L) (t : Take L r L') : Mem B H (r :: L') := h.perm t.perm
theorem Mem.drop {B H : Heap} {L : List Res} {r : Res} (h : Mem B H (r :: L)) : Mem B H L := h.sub (List.sublist_cons_self _ _)
theorem Mem.swap {B H : Heap} {L : List Res} {r s : Res} (h : Mem B H (r :: s :: L)) : Mem B H (s :: r :: L) := h.perm (.swap _ _ _)
theorem Mem.Yt {A B H : Heap} {L : List Res} (h : Mem B H L) (hp : A <+: B) : Mem A H L := ⟨hp.trans h.pre, h.ok, fun r hr c hc => by have := h.low r hr c hc; have := hp.length_le; omega, h.sep⟩
theorem Mem.nil {B H : Heap} {L : List Res} (h : Mem B H L) (sz : Nat) (R : List V → α → Prop) : Mem B H (.own sz R .AN [] :: L) :=
 ⟨h.pre, fun r hr => (List.mem_cons.1 hr).elim (fun e => by subst e; exact .inl ⟨rfl, rfl⟩) (h.ok r), fun r hr c hc => (List.mem_cons.1 hr).elim (fun e => by subst e; cases hc) fun h1 => h.low r h1 c hc, List.pairwise_cons.2 ⟨fun _ _ c hc => (by cases hc), h.sep⟩⟩
theorem BR.mem {sz : Nat} {R : List V → α → Prop} {B H : Heap} {v : V} {xs : List α} (h : BR sz R B H v xs) : Mem B H [.own sz R v xs] :=
 ⟨h.1, fun r hr => by rcases List.mem_singleton.1 hr with rfl; exact h.2.imp id fun ⟨b, _, h⟩ => ⟨b, h⟩, fun r hr c hc => by rcases List.mem_singleton.1 hr with rfl; exact (h.blk hc).1, by simp⟩
theorem Mem.gE {sz : Nat} {R : List V → α → Prop} {B H : Heap} {v : V} {xs : List α} {L : List Res} {f : Res → List Res} (h : Mem B H L) (hh : Has L (.own sz R v xs) f) : BR sz R B H v xs := by
 obtain ⟨L1, L2, rfl, _⟩ := hh.parts
 refine ⟨h.pre, (h.ok _ (List.mem_append_right _ List.mem_cons_self)).imp id ?_⟩
 rintro ⟨b, ho⟩
 exact ⟨b, h.low _ (List.mem_append_right _ List.mem_cons_self) b ho.blk, ho⟩
theorem Mem.sl {sz : Nat} {R : List V → α → Prop} {B H : Heap} {v : V} {xs : List α} {L : List Res} {f : Res → List Res} (h : Mem B H L) (hh : Has L (.own sz R v xs) f) : Sl sz R H v xs := (h.gE hh).sl
theorem Mem.fact {B H : Heap} {L : List Res} {F : Fact} {f : Res → List Res} (h : Mem B H L) (hh : Has L (.ro F) f) : F.p H := h.get hh
theorem Mem.eM {B H : Heap} {F : Fact} (hp : B <+: H) (h : F.p H) (hl : ∀ c, F.S c → B.length ≤ c) : Mem B H [.ro F] :=
 ⟨hp, fun r hr => by rcases List.mem_singleton.1 hr with rfl; exact h, fun r hr c hc => by rcases List.mem_singleton.1 hr with rfl; exact hl c hc, by simp⟩
theorem Mem.row {B H : Heap} {L : List Res} {b : Nat} {cs : List V} {f : Res → List Res} (h : Mem B H L) (hh : Has L (.box b cs) f) : H[b]? = some (.row cs true) := h.get hh
theorem Mem.ld {B H : Heap} {L : List Res} {b off t : Nat} {i : TI} {cs : List V} {v : V} {f : Res → List Res} (h : Mem B H L) (hh : Has L (.box b cs) f) (hT : T t = some i) (ha : i.k.agg = false) (hq : cs[off]? = some v) : loadV T t H b off = some v := AU hT ha (h.get hh) hq
theorem Mem.ldA {B H : Heap} {L : List Res} {b off t : Nat} {i : TI} {cs ds : List V} {f : Res → List Res} (h : Mem B H L) (hh : Has L (.box b cs) f) (hT : T t = some i) (ha : i.k.agg = true) (hn : off + i.size ≤ cs.length) (hq : (cs.drop off).take i.size = ds) : loadV T t H b off = some (.agg ds) := by
 refine AZ hT ha ?_
 have hg : H[b]? = some (.row cs true) := h.get hh
 unfold Heap.loadN
 rw [hg]
 simp only
 rw [if_pos hn, hq]
theorem Mem.put {B H : Heap} {L : List Res} {b off t : Nat} {i : TI} {cs ds cs' : List V} {v : V} {f : Res → List Res} (h : Mem B H L) (hh : Has L (.box b cs) f) (hT : T t = some i) (hc : v.cells = ds) (ht : v.isTup = false) (hl : ds.length = i.size) (hn : off + ds.length ≤ cs.length) (hs : setL cs off ds = cs') :
  ∃ H', storeV T t H b off v = some H' ∧ Mem B H' (f (.box b cs')) := by
 have hg : H[b]? = some (.row cs true) := h.get hh
 have hb := (List.getElem?_eq_some_iff.1 hg).1
 refine ⟨H.set b (.row cs' true), ?_, h.VB hh (by simp) (fun c hc hne => by rw [List.getElem?_set_ne (fun e => hne e)]) (by simp only [Res.ok]; rw [List.getElem?_set_self hb]) fun c hc => .inl hc⟩
 unfold storeV
 split
 ·cases ht
 ·rename_i j hT' _
  rw [hT] at hT'
  obtain rfl := Option.some.inj hT'
  rw [if_pos (by rw [hc, hl]), hc]
  unfold Heap.storeN
  rw [hg]
  simp only
  rw [if_pos hn, hs]
 ·rename_i hT'
  rw [hT] at hT'
  cases hT'
theorem Mem.elem {sz : Nat} {R : List V → α → Prop} {B H : Heap} {v : V} {xs : List α} {L : List Res} {f : Res → List Res} (h : Mem B H L) (hh : Has L (.own sz R v xs) f) {t e : Nat} {i ie : TI} (hT : T t = some i) (hk : i.k = .slice e) (hE : T e = some ie) (hs : ie.size = sz) {k : Nat} (hk' : k < xs.length) :
  ∃ b, idxV T t v (k : Int) = some (.ptr b (k * sz)) ∧ ∀ w y, w.isTup = false → w.cells.length = sz → R w.cells y → ∃ H', storeV T e H b (k * sz) w = some H' ∧ Mem B H' (f (.own sz R v (xs.set k y))) := by
 rcases h.get hh with ⟨rfl, rfl⟩ | ⟨b, ho⟩
 ·simp at hk'
 ·obtain ⟨h1, h2⟩ := ID ho hT hk hE hs hk'
  refine ⟨b, h1, fun w y e1 e2 e3 => ?_⟩
  obtain ⟨H', g1, g2, g3⟩ := h2 w y e1 e2 e3
  exact ⟨H', g1, h.VB hh g3.1 (fun c hc hne => g3.2 c hc fun e => hne (by subst e; exact ho.blk)) (.inr ⟨b, g2⟩) fun c hc => .inl hc⟩
theorem Mem.app {sz : Nat} {R : List V → α → Prop} {B H : Heap} {v w : V} {xs ys : List α} {L : List Res} {f : Res → List Res} (h : Mem B H L) (hh : Has L (.own sz R v xs) f) {ie : TI} {t2 e2 : Nat} {i2 : TI} (hs : ie.size = sz) (hw : Sl sz R H w ys) (hT : T t2 = some i2) (hk : i2.k = .slice e2)
  (hb : (xs.length + ys.length) * ie.bytes ≤ 2 ^ 47 ∧ xs.length + ys.length ≤ 2 ^ 47) : ∃ n news v' H', newsOf T ie t2 w H = some (n, news) ∧ appendV ie v n news H = some (v', H') ∧ Mem B H' (f (.own sz R v' (xs ++ ys))) := by
 obtain ⟨news, h1, h2⟩ := hw.news hT hk hs
 obtain ⟨v', H', h3, h4, h5, h6⟩ := (h.gE hh).app hs h2 hb
 refine ⟨_, news, v', H', h1, h3, h.VB hh h5.1 (fun c hc hne => h5.2 c hc hne) (h4.2.imp id fun ⟨b, _, h⟩ => ⟨b, h⟩) fun c hc => h6 c hc⟩
theorem Fc {sz : Nat} {R : List V → α → Prop} (g : α → List V) (hg : ∀ x, (g x).length = sz ∧ R (g x) x) : ∀ xs : List α, Cells sz R (xs.flatMap g) xs
 | [] => Cells.nil
 | x :: xs => by
  rw [List.flatMap_cons]
  exact Cells.cons (hg x).1 (hg x).2 (Fc g hg xs)
theorem Ny {place : Nat → Option (Nat × Nat)} {cs c : List V} {i : Nat} {v : V} {rest : List (Nat × V)} {off size : Nat} {r : Option (List V)} (hp : place i = some (off, size)) (ht : v.isTup = false) (hc : v.cells = c) (hl : c.length = size) (hn : Nat.ble (off + size) cs.length = true) (hr : fillV place (setL cs off c) rest = r) : fillV place cs ((i, v) :: rest) = r := by
 simp only [fillV, hp, hc]
 rw [if_pos ⟨ht, hl, Nat.le_of_ble_eq_true hn⟩]
 exact hr
section steps
variable {ops : Array Oper} {rest : List Oper} {Q : Rho → Heap → Prop} {ρ : Rho} {h h' B : Heap} {v a w : V} {k : Nat} {d : Option Nat} {op : Op} {t t' : Nat} {p : String} {af : Array Edge} {L : List Res} {f : Res → List Res} {x y : Operand} {cs ds cs' : List V} {i ie : TI}
theorem Aj (hT : T t' = some i) (hz : i.zero = cs) (hw : ∀ b h', Mem B h' (.box b cs :: L) → wqL P T ops rest Q (ρ.put d (.ptr b 0)) h') (hM : Mem B h L := by assumption) : wqL P T ops (⟨d, .alloc t', t, p, af, none⟩ :: rest) Q ρ h := by
 subst hz; exact BC (Ld hT) (hw _ _ (hM.new _))
theorem IZ (hT : T t' = some i) (hz : i.zero = cs) (hw : ∀ b h', Mem B h' (.box b cs :: L) → wqD P T ops (k + 1) rest Q (ρ.put d (.ptr b 0)) h') (hM : Mem B h L := by assumption) : wqD P T ops k (⟨d, .alloc t', t, p, af, none⟩ :: rest) Q ρ h := by
 subst hz; exact CU (Ld hT) (hw _ _ (hM.new _))
theorem Ax (hT : T t' = some i) (hw : ∀ b h', Mem B h' (.box b cs :: L) → wqL P T ops rest Q (ρ.put d (.ptr b 0)) h') (hM : Mem B h L := by assumption) (hx : ρ.ev x = some a := by exact eLk) (ht : a.isTup = false := by first | rfl | simp only [*]) (hc : a.cells = cs := by exact (by first | (simp only [*]; first | done | rfl) | (simp only [V.cells]; first | done | rfl))) : wqL P T ops (⟨d, .box t' x, t, p, af, none⟩ :: rest) Q ρ h := by
 exact BC (Oi hT hx ht hc) (hw _ _ (hM.new _))
theorem AM {b off : Nat} (hT : T t' = some i) (hw : ∀ h', Mem B h' (f (.box b cs')) → wqL P T ops rest Q (ρ.put d V.undef) h') (hM : Mem B h L := by assumption) (hx : ρ.ev x = some (.ptr b off) := by exact eLk) (hy : ρ.ev y = some a := by exact eLk) (hh : Has L (.box b cs) f := by (repeat (first | exact Has.here | apply Has.there)))
  (hc : a.cells = ds := by exact (by first | (simp only [*]; first | done | rfl) | (simp only [V.cells]; first | done | rfl))) (ht : a.isTup = false := by first | rfl | simp only [*]) (hl : ds.length = i.size := by rfl) (hn : Nat.ble (off + ds.length) cs.length = true := by rfl) (hs : setL cs off ds = cs' := by (simp only [setL, List.set_cons_zero, List.set_cons_succ, Nat.reduceAdd, Nat.zero_add]; first | done | rfl)) : wqL P T ops (⟨d, .store t' x y, t, p, af, none⟩ :: rest) Q ρ h := by
 obtain ⟨H', h1, h2⟩ := hM.put hh hT hc ht hl (Nat.le_of_ble_eq_true hn) hs
 exact BC (Eg hx hy h1) (hw _ h2)
theorem DT {b off : Nat} (hT : T t' = some i) (hw : ∀ h', Mem B h' (f (.box b cs')) → wqD P T ops (k + 1) rest Q (ρ.put d V.undef) h') (hM : Mem B h L := by assumption) (hx : ρ.ev x = some (.ptr b off) := by exact eLk) (hy : ρ.ev y = some a := by exact eLk) (hh : Has L (.box b cs) f := by (repeat (first | exact Has.here | apply Has.there)))
  (hc : a.cells = ds := by exact (by first | (simp only [*]; first | done | rfl) | (simp only [V.cells]; first | done | rfl))) (ht : a.isTup = false := by first | rfl | simp only [*]) (hl : ds.length = i.size := by rfl) (hn : Nat.ble (off + ds.length) cs.length = true := by rfl) (hs : setL cs off ds = cs' := by (simp only [setL, List.set_cons_zero, List.set_cons_succ, Nat.reduceAdd, Nat.zero_add]; first | done | rfl)) : wqD P T ops k (⟨d, .store t' x y, t, p, af, none⟩ :: rest) Q ρ h := by
 obtain ⟨H', h1, h2⟩ := hM.put hh hT hc ht hl (Nat.le_of_ble_eq_true hn) hs
 exact CU (Eg hx hy h1) (hw _ h2)
theorem Dc {b off : Nat} (hst : storeV T t' h b off a = some h') (hw : wqL P T ops rest Q (ρ.put d V.undef) h') (hx : ρ.ev x = some (.ptr b off) := by exact eLk) (hy : ρ.ev y = some a := by exact eLk) : wqL P T ops (⟨d, .store t' x y, t, p, af, none⟩ :: rest) Q ρ h := BC (Eg hx hy hst) hw
theorem Jx {b off : Nat} (hst : storeV T t' h b off a = some h') (hw : wqD P T ops (k + 1) rest Q (ρ.put d V.undef) h') (hx : ρ.ev x = some (.ptr b off) := by exact eLk) (hy : ρ.ev y = some a := by exact eLk) : wqD P T ops k (⟨d, .store t' x y, t, p, af, none⟩ :: rest) Q ρ h := CU (Eg hx hy hst) hw
theorem Vl {e : Nat} {kx ky : IntKind} {n : Nat} {m c : Int} {z : α} (sz : Nat) (R : List V → α → Prop) (hT : T t' = some i) (hk : i.k = .slice e) (hE : T e = some ie) (hR : R ie.zero z) (hz : ie.zero.length = sz) (hs : ie.size = sz) (hm : m = n) (hc : c = n) (hb : (ie.bytes : Int) * n ≤ 2 ^ 48 ∧ n ≤ 9223372036854775807)
  (hw : ∀ v h', Mem B h' (.own sz R v (List.replicate n z) :: L) → wqL P T ops rest Q (ρ.put d v) h') (hM : Mem B h L := by assumption) (hx : ρ.ev x = some (.int kx m) := by exact eLk) (hy : ρ.ev y = some (.int ky c) := by exact eLk) : wqL P T ops (⟨d, .makeSlice t' x y, t, p, af, none⟩ :: rest) Q ρ h := by
 subst hm; subst hc; subst hs
 refine BC (Fs hT hk hE hx hy ⟨by omega, by omega, hb.1, by simp only [IntKind.max, IntKind.signed, IntKind.bits]; omega⟩) ?_
 have h1 := Dj (R := R) (t := true) (List.prefix_refl h) (Dv (sz := ie.size) (z := ie.zero) (x := z) hz hR n)
 rw [List.length_replicate] at h1
 exact hw _ _ (hM.call h1.mem)
theorem Qf {e : Nat} {kx ky : IntKind} {n : Nat} {m c : Int} {z : α} (sz : Nat) (R : List V → α → Prop) (hT : T t' = some i) (hk : i.k = .slice e) (hE : T e = some ie) (hR : R ie.zero z) (hz : ie.zero.length = sz) (hs : ie.size = sz) (hm : m = n) (hc : c = n) (hb : (ie.bytes : Int) * n ≤ 2 ^ 48 ∧ n ≤ 9223372036854775807)
  (hw : ∀ v h', Mem B h' (.own sz R v (List.replicate n z) :: L) → wqD P T ops (k + 1) rest Q (ρ.put d v) h') (hM : Mem B h L := by assumption) (hx : ρ.ev x = some (.int kx m) := by exact eLk) (hy : ρ.ev y = some (.int ky c) := by exact eLk) : wqD P T ops k (⟨d, .makeSlice t' x y, t, p, af, none⟩ :: rest) Q ρ h := by
 subst hm; subst hc; subst hs
 refine CU (Fs hT hk hE hx hy ⟨by omega, by omega, hb.1, by simp only [IntKind.max, IntKind.signed, IntKind.bits]; omega⟩) ?_
 have h1 := Dj (R := R) (t := true) (List.prefix_refl h) (Dv (sz := ie.size) (z := ie.zero) (x := z) hz hR n)
 rw [List.length_replicate] at h1
 exact hw _ _ (hM.call h1.mem)
theorem Aa {e n : Nat} {ps : Array (Nat × Operand)} {vs : List (Nat × V)} {sz : Nat} (R : List V → α → Prop) (xs : List α) (cs : List V) (hT : T t' = some i) (hk : i.k = .slice e) (hE : T e = some ie) (hn : n = xs.length) (hR : Cells sz R cs xs) (hl : n * sz ≤ 2 ^ 24)
  (hw : ∀ v h', Mem B h' (.own sz R v xs :: L) → wqL P T ops rest Q (ρ.put d v) h') (hM : Mem B h L := by assumption) (hp : evParts ρ.ev ps.toList = some vs := by exact eLk) (hf : fillV (FG ie.size n) (Bw ie.zero n) vs = some cs := by first | rfl | ((repeat (refine Ny (by rfl) (by first | rfl | simp only [*]) (by first | (simp only [*]; first | done | rfl) | (simp only [V.cells]; first | done | rfl)) (by rfl) (by rfl) ?_)); simp only [fillV, setL, List.set_cons_zero, List.set_cons_succ, Nat.reduceAdd, Nat.zero_add]; first | done | rfl)) (hs : ie.size = sz := by rfl) : wqL P T ops (⟨d, .buildSlice t' n ps, t, p, af, none⟩ :: rest) Q ρ h := by
 subst hn; subst hs
 refine BC (Cy hT hk hE hp hl hf) ?_
 exact hw _ _ (hM.call (Dj (R := R) (t := true) (List.prefix_refl h) hR).mem)
theorem SD {e n : Nat} {ps : Array (Nat × Operand)} {vs : List (Nat × V)} {sz : Nat} (R : List V → α → Prop) (xs : List α) (cs : List V) (hT : T t' = some i) (hk : i.k = .slice e) (hE : T e = some ie) (hn : n = xs.length) (hR : Cells sz R cs xs) (hl : n * sz ≤ 2 ^ 24)
  (hw : ∀ v h', Mem B h' (.own sz R v xs :: L) → wqD P T ops (k + 1) rest Q (ρ.put d v) h') (hM : Mem B h L := by assumption) (hp : evParts ρ.ev ps.toList = some vs := by exact eLk) (hf : fillV (FG ie.size n) (Bw ie.zero n) vs = some cs := by first | rfl | ((repeat (refine Ny (by rfl) (by first | rfl | simp only [*]) (by first | (simp only [*]; first | done | rfl) | (simp only [V.cells]; first | done | rfl)) (by rfl) (by rfl) ?_)); simp only [fillV, setL, List.set_cons_zero, List.set_cons_succ, Nat.reduceAdd, Nat.zero_add]; first | done | rfl)) (hs : ie.size = sz := by rfl) : wqD P T ops k (⟨d, .buildSlice t' n ps, t, p, af, none⟩ :: rest) Q ρ h := by
 subst hn; subst hs
 refine CU (Cy hT hk hE hp hl hf) ?_
 exact hw _ _ (hM.call (Dj (R := R) (t := true) (List.prefix_refl h) hR).mem)
theorem Bg {sz : Nat} {R : List V → α → Prop} {xs ys : List α} {b : V} {zs : Array Operand} {t1 t2 e e2 : Nat} {i2 : TI} (hw2 : Sl sz R h b ys)
  (hw : ∀ v' h', Mem B h' (f (.own sz R v' (xs ++ ys))) → wqL P T ops rest Q (ρ.put d v') h') (hM : Mem B h L := by assumption) (hx : evs ρ.ev zs.toList = some [a, b] := by exact eLk) (hh : Has L (.own sz R a xs) f := by (repeat (first | exact Has.here | apply Has.there))) (hT : T t1 = some i := by rfl) (hk : i.k = .slice e := by rfl) (hE : T e = some ie := by rfl) (hs : ie.size = sz := by rfl) (hT2 : T t2 = some i2 := by rfl) (hk2 : i2.k = .slice e2 := by rfl) (hb : (xs.length + ys.length) * ie.bytes ≤ 2 ^ 47 ∧ xs.length + ys.length ≤ 2 ^ 47 := by (first | (simp only [List.length_nil, List.length_cons, List.length_append, List.length_map, List.length_range, List.length_take, List.length_set, Nat.zero_add, Nat.add_zero]; omega) | omega | (simp only [*]; omega))) :
  wqL P T ops (⟨d, .call { callee := .builtin .append, args := zs, argTypes := #[t1, t2] }, t, p, af, none⟩ :: rest) Q ρ h := by
 obtain ⟨n, news, v', H', h1, h2, h3⟩ := hM.app hh (ie := ie) hs hw2 hT2 hk2 hb
 exact BC (JU hx hT hk hE h1 h2) (hw _ _ h3)
theorem YI {sz : Nat} {R : List V → α → Prop} {xs ys : List α} {b : V} {zs : Array Operand} {t1 t2 e e2 : Nat} {i2 : TI} (hw2 : Sl sz R h b ys)
  (hw : ∀ v' h', Mem B h' (f (.own sz R v' (xs ++ ys))) → wqD P T ops (k + 1) rest Q (ρ.put d v') h') (hM : Mem B h L := by assumption) (hx : evs ρ.ev zs.toList = some [a, b] := by exact eLk) (hh : Has L (.own sz R a xs) f := by (repeat (first | exact Has.here | apply Has.there))) (hT : T t1 = some i := by rfl) (hk : i.k = .slice e := by rfl) (hE : T e = some ie := by rfl) (hs : ie.size = sz := by rfl) (hT2 : T t2 = some i2 := by rfl) (hk2 : i2.k = .slice e2 := by rfl) (hb : (xs.length + ys.length) * ie.bytes ≤ 2 ^ 47 ∧ xs.length + ys.length ≤ 2 ^ 47 := by (first | (simp only [List.length_nil, List.length_cons, List.length_append, List.length_map, List.length_range, List.length_take, List.length_set, Nat.zero_add, Nat.add_zero]; omega) | omega | (simp only [*]; omega))) :
  wqD P T ops k (⟨d, .call { callee := .builtin .append, args := zs, argTypes := #[t1, t2] }, t, p, af, none⟩ :: rest) Q ρ h := by
 obtain ⟨n, news, v', H', h1, h2, h3⟩ := hM.app hh (ie := ie) hs hw2 hT2 hk2 hb
 exact CU (JU hx hT hk hE h1 h2) (hw _ _ h3)
theorem LC {α : Type} {a b : α} (h : a = b := by exact (by first | assumption | (simp only [*]; done) | (simp only [*]; rfl) | exact Mem.ld (by assumption) (by (repeat (first | exact Has.here | apply Has.there))) (by rfl) (by rfl) (by rfl) | exact Mem.ldA (by assumption) (by (repeat (first | exact Has.here | apply Has.there))) (by rfl) (by rfl) (by (simp only [List.length_cons, List.length_nil, List.length_set]; omega)) (by (simp only [List.drop_zero, List.drop_succ_cons, List.take_succ_cons, List.take_zero, List.take_nil]; first | done | rfl)) | exact AF (by rfl) (by rfl) (by assumption) | exact AZ (by rfl) (by rfl) (by assumption))) : a = b := h
theorem Nt (hs : CP T ρ h op v h := by first | exact Ol eLk | exact JV eLk | exact EC eLk eLk aN | exact Jn eLk NF | exact Lf eLk (by rfl) | exact Lg eLk eLk NF | exact Ze eLk (by rfl) | exact MV eLk LC | exact WH eLk | exact Lh Ib eLk eLk | exact NS Ib eLk eLk | exact MW eLk eLk eLk (by simp only [reduceIte, Bool.false_eq_true, *]; first | done | rfl) | exact bV eLk (by rfl) | exact II eLk (by rfl) | exact RY rfl eLk | exact RX (by rfl) (by rfl) rfl eLk | exact NR (by rfl) rfl eLk (by first | ((repeat (refine Ny (by rfl) (by first | rfl | simp only [*]) (by first | (simp only [*]; first | done | rfl) | (simp only [V.cells]; first | done | rfl)) (by rfl) (by rfl) ?_)); simp only [fillV, setL, List.set_cons_zero, List.set_cons_succ, Nat.reduceAdd, Nat.zero_add]; first | done | rfl) | rfl) | exact NT (by rfl) rfl (by rfl) eLk eLk eLk eLk NF) : CP T ρ h op v h := hs
theorem OE (hw : wqL P T ops rest Q (ρ.put d v) h) (hs : CP T ρ h op v h := by exact Nt) : wqL P T ops (⟨d, op, t, p, af, none⟩ :: rest) Q ρ h := BC hs hw
theorem Nq (hw : wqD P T ops (k + 1) rest Q (ρ.put d v) h) (hs : CP T ρ h op v h := by exact Nt) : wqD P T ops k (⟨d, op, t, p, af, none⟩ :: rest) Q ρ h := CU hs hw
theorem IU {x y : Code} {Q : Exit → Rho → Heap → Prop} {c : Operand} (hw : wq P T (.cond c x y) Q ρ h) : wq P T (.cond c x y) Q ρ h := hw
theorem Gc {x y : Code} {Q : Exit → Rho → Heap → Prop} {c : Operand} (hw : wq P T x Q ρ h) (hb : ρ.ev c = some (.bool true) := by exact Ib) : wq P T (.cond c x y) Q ρ h := Rm hb (fun _ => hw) (fun h => by cases h)
theorem IT {x y : Code} {Q : Exit → Rho → Heap → Prop} {c : Operand} (hw : wq P T y Q ρ h) (hb : ρ.ev c = some (.bool false) := by exact Ib) : wq P T (.cond c x y) Q ρ h := Rm hb (fun h => by cases h) (fun _ => hw)
theorem KU {j e : Nat} {w : Bool} (hw : wqL P T ops rest Q (ρ.put d V.undef) h) (h1 : (ops[j]?).bind (·.dst) = some e := by rfl) (h2 : ρ.ev (.tmp e) = some V.undef := by exact Ib) : wqL P T ops (⟨d, op, t, p, af, some (j, w)⟩ :: rest) Q ρ h := by
 have h2' : ρ e = V.undef := by simpa [Rho.ev] using h2
 have hg : guardR ops ρ ⟨d, op, t, p, af, some (j, w)⟩ = false := by simp only [guardR, h1, h2', V.undef]
 simp only [wqL]; rw [if_neg (by rw [hg]; simp)]; exact hw
theorem KJ {j e : Nat} {w : Bool} (hw : wqD P T ops (k + 1) rest Q (ρ.put d V.undef) h) (h1 : (ops[j]?).bind (·.dst) = some e := by rfl) (h2 : ρ.ev (.tmp e) = some V.undef := by exact Ib) : wqD P T ops k (⟨d, op, t, p, af, some (j, w)⟩ :: rest) Q ρ h := by
 have h2' : ρ e = V.undef := by simpa [Rho.ev] using h2
 have hg : guardR ops ρ ⟨d, op, t, p, af, some (j, w)⟩ = false := by simp only [guardR, h1, h2', V.undef]
 simp only [wqD]; rw [if_neg (by rw [hg]; simp)]; exact hw
theorem goM {p q : Prop} (hq : q) (h : Kept q → p := by intro hq; (repeat (first | (refine Bs ?_; refine OE ?_) | (refine Bz ?_; refine Nq ?_) | (refine CG ?_; first | refine BO ?_ | refine At ?_ | refine KU ?_) | (refine CF ?_; first | refine BS ?_ | refine Aw ?_ | refine KJ ?_) | (refine IU ?_; first | refine Gc ?_ | refine IT ?_) | refine AO ?_ | refine AK ?_ | refine Ae (by decide +kernel) ?_ | refine AW ?_ | refine BN ?_ | refine BM ?_ | refine Ah ?_ | refine As ?_ | refine Ag ?_ | refine AR ?_ | refine Ar ?_ | refine Ad ?_ | refine AS ?_ | refine Aq ?_ | refine Ac ?_ | refine AV rfl ?_)); exact hq.val) : p := h ⟨hq⟩
theorem Ef {t : Nat} (hv : ρ.ev (.tmp t) = some v) : resR T ρ h (.tmp t) = some v := hv
theorem Df {a t b off : Nat} (ha : ρ.ev (.tmp a) = some (.ptr b off)) (hl : loadV T t h b off = some v) : resR T ρ h (.cell a t) = some v := by
 have ha' : ρ a = .ptr b off := by simpa [Rho.ev] using ha
 simp only [resR, ha']
 unfold loadV at hl
 cases hT : T t with
 | none => rw [hT] at hl; cases hl
 | some i => rw [hT] at hl; exact hl
theorem end_1 {r : ResultVar} {R : V → Heap → Prop} {x : Exit} (hx : x = .ret ∨ x = .normal) (hR : R v h) (h1 : resR T ρ h r = some v := by (first | exact Ef eLk | exact Df eLk LC)) : EndR T [r] R x ρ h := by
 rcases hx with rfl | rfl <;> exact ⟨v, by simp only [resRf, resRs, h1], hR⟩
theorem fU {r1 r2 : ResultVar} {R : V → Heap → Prop} {x : Exit} {v1 v2 : V} (hx : x = .ret ∨ x = .normal) (hR : R (.tup [v1, v2]) h) (h1 : resR T ρ h r1 = some v1 := by (first | exact Ef eLk | exact Df eLk LC)) (h2 : resR T ρ h r2 = some v2 := by (first | exact Ef eLk | exact Df eLk LC)) : EndR T [r1, r2] R x ρ h := by
 rcases hx with rfl | rfl <;> exact ⟨_, by simp only [resRf, resRs, h1, h2], hR⟩
theorem fV {r1 r2 r3 : ResultVar} {R : V → Heap → Prop} {x : Exit} {v1 v2 v3 : V} (hx : x = .ret ∨ x = .normal) (hR : R (.tup [v1, v2, v3]) h) (h1 : resR T ρ h r1 = some v1 := by (first | exact Ef eLk | exact Df eLk LC)) (h2 : resR T ρ h r2 = some v2 := by (first | exact Ef eLk | exact Df eLk LC)) (h3 : resR T ρ h r3 = some v3 := by (first | exact Ef eLk | exact Df eLk LC)) : EndR T [r1, r2, r3] R x ρ h := by
 rcases hx with rfl | rfl <;> exact ⟨_, by simp only [resRf, resRs, h1, h2, h3], hR⟩
theorem AY {r : ResultVar} {R : V → Heap → Prop} {x : Exit} (hR : R v h) (h1 : resR T ρ h r = some v := by (first | exact Ef eLk | exact Df eLk LC)) (hx : x = .ret ∨ x = .normal := by first | exact .inl rfl | exact .inr rfl) : EndR T [r] R x ρ h := end_1 hx hR h1
theorem An {r1 r2 : ResultVar} {R : V → Heap → Prop} {x : Exit} {v1 v2 : V} (hR : R (.tup [v1, v2]) h) (h1 : resR T ρ h r1 = some v1 := by (first | exact Ef eLk | exact Df eLk LC)) (h2 : resR T ρ h r2 = some v2 := by (first | exact Ef eLk | exact Df eLk LC)) (hx : x = .ret ∨ x = .normal := by first | exact .inl rfl | exact .inr rfl) : EndR T [r1, r2] R x ρ h := fU hx hR h1 h2
theorem CI {r1 r2 r3 : ResultVar} {R : V → Heap → Prop} {x : Exit} {v1 v2 v3 : V} (hR : R (.tup [v1, v2, v3]) h) (h1 : resR T ρ h r1 = some v1 := by (first | exact Ef eLk | exact Df eLk LC)) (h2 : resR T ρ h r2 = some v2 := by (first | exact Ef eLk | exact Df eLk LC)) (h3 : resR T ρ h r3 = some v3 := by (first | exact Ef eLk | exact Df eLk LC)) (hx : x = .ret ∨ x = .normal := by first | exact .inl rfl | exact .inr rfl) : EndR T [r1, r2, r3] R x ρ h := fV hx hR h1 h2 h3
theorem hsG {L : List Res} {r : Res} {f : Res → List Res} (h : Has L r f := by (repeat (first | exact Has.here | apply Has.there))) : Has L r f := h
theorem tkG {L L' : List Res} {r : Res} (h : Take L r L' := by (repeat (first | exact Take.here | apply Take.there))) : Take L r L' := h
theorem sbG {L L' : List Res} (h : L'.Sublist L := by (repeat (first | exact List.Sublist.slnil | exact List.Sublist.refl _ | refine List.Sublist.cons_cons _ ?_ | refine List.Sublist.cons _ ?_))) : L'.Sublist L := h
end steps
theorem Ao (fit : Fits P T) (hm : P.follows .mixedOrders = true) {f : Nat} {fn : Func} {c : Code} {args : List V} {H : Heap} {R : V → Heap → Prop} {rs : List ResultVar} (hf : P.funcs[f]? = some fn) (hb : fn.body = some c) (hn : (fn.name == "runtime.NumGoroutine") = false)
  (hrs : fn.results = ⟨rs⟩) (hok : Ig fn c args.length = true) (h : Mem H H [] → wq P T c (EndR T rs R) (MT args) H) : ∃ v H', Call P f args H v H' ∧ R v H' := by
 obtain ⟨v, H', h1, h2⟩ := CY fit hm hf hb hn hrs hok (h (Mem.start H))
 exact ⟨v, H', h2, h1⟩
theorem AQ (fit : Fits P T) (hm : P.follows .mixedOrders = true) {f : Nat} {fn : Func} {c : Code} {args : List V} {H : Heap} {v : V} {rs : List ResultVar} (hf : P.funcs[f]? = some fn) (hb : fn.body = some c) (hn : (fn.name == "runtime.NumGoroutine") = false)
  (hrs : fn.results = ⟨rs⟩) (hok : Ig fn c args.length = true) (hv : v.plain = true) (h : Mem H H [] → wq P T c (EndR T rs fun v' h' => v' = v ∧ H <+: h') (MT args) H) : Call P f args H v H := AJ fit hm hf hb hn hrs hok hv (h (Mem.start H))
theorem CO (fit : Fits P T) (hm : P.follows .mixedOrders = true) {f : Nat} {fn : Func} {c : Code} {args : List V} {B H : Heap} {L : List Res} {R : V → Heap → Prop} {rs : List ResultVar} (hM : Mem B H L) (hf : P.funcs[f]? = some fn) (hb : fn.body = some c) (hn : (fn.name == "runtime.NumGoroutine") = false)
  (hrs : fn.results = ⟨rs⟩) (hok : Ig fn c args.length = true) (h : Mem B H L → wq P T c (EndR T rs R) (MT args) H) : ∃ v H', Call P f args H v H' ∧ R v H' := by
 obtain ⟨v, H', h1, h2⟩ := CY fit hm hf hb hn hrs hok (h hM)
 exact ⟨v, H', h2, h1⟩
theorem Mem.slG {α : Type} {sz : Nat} {R : List V → α → Prop} {B H : Heap} {v : V} {xs : List α} {L : List Res} {f : Res → List Res} (h : Mem B H L) (hh : Has L (.own sz R v xs) f := by (repeat (first | exact Has.here | apply Has.there))) : Sl sz R H v xs := h.sl hh
theorem Mem.Ea {B H : Heap} {L L' : List Res} (h : Mem B H L) (hs : L'.Sublist L := by (repeat (first | exact List.Sublist.slnil | exact List.Sublist.refl _ | refine List.Sublist.cons_cons _ ?_ | refine List.Sublist.cons _ ?_))) : Mem B H L' := h.sub hs
end Go.Proofs.YtncjbjlmgnjhiaaGreat.VM
namespace Go.Proofs.YtncjbjlmgnjhiaaGreat.VM
open Go
set_option linter.unusedVariables false
set_option linter.unusedSimpArgs false
variable {P : Program} {T : Tab} {α β : Type}
theorem Sl.under {sz : Nat} {R : List V → α → Prop} {H : Heap} {v : V} {xs : List α} (h : Sl sz R H v xs) : v.under H.length = true := by
 rcases h with ⟨rfl, _⟩ | ⟨b, off, cap, t, cs, wr, rfl, h1, h2, _⟩
 ·rfl
 ·exact decide_eq_true (List.getElem?_eq_some_iff.1 h2).1
section steps
variable {ops : Array Oper} {rest : List Oper} {Q : Rho → Heap → Prop} {ρ : Rho} {h h' B : Heap} {v a w : V} {k : Nat} {d : Option Nat} {op : Op} {t t' : Nat} {p : String} {af : Array Edge} {L : List Res} {f : Res → List Res} {x y : Operand} {cs ds cs' : List V} {i ie : TI} {ps : List DZ}
theorem Hw (hw : wqE P T ops k (⟨d, op, t, p, af, none⟩ :: rest) ps Q ρ h) : wqE P T ops k (⟨d, op, t, p, af, none⟩ :: rest) ps Q ρ h := hw
theorem Eo (hw : wqE P T ops (k + 1) rest ps Q (ρ.put d v) h) (hl : CL ops k = false := by decide +kernel) (hp : ∀ p ∈ ps, p.holds T h := by assumption) (hs : CP T ρ h op v h := by exact Nt) : wqE P T ops k (⟨d, op, t, p, af, none⟩ :: rest) ps Q ρ h := YR hl hp hs hw
theorem RK (h : Heap) : ∀ p ∈ ([] : List DZ), p.holds T h := fun p hp => absurd hp List.not_mem_nil
theorem OS {h : Heap} {q : DZ} (hq : q.holds T h) : ∀ p ∈ [q], p.holds T h := fun p hp => by rcases List.mem_singleton.1 hp with rfl; exact hq
theorem Jd {b off : Nat} (hq : ∀ q ∈ ps, q.holds T h) (hu : v.under h.length = true) (hw : wqE P T ops (k + 1) rest (⟨ρ, .load t' x, v⟩ :: ps) Q (ρ.put d v) h) (hl : CL ops k = true := by decide +kernel) (hx : ρ.ev x = some (.ptr b off) := by exact eLk) (hv : loadV T t' h b off = some v := by exact LC) : wqE P T ops k (⟨d, .load t' x, t, p, af, none⟩ :: rest) ps Q ρ h :=
 YP hl hq (MV hx hv) hu hw
theorem JD {b off : Nat} (hst : storeV T t' h b off a = some h') (hw : (∀ p ∈ ps, p.holds T h') ∧ wqE P T ops (k + 1) rest ps Q (ρ.put d V.undef) h') (hl : CL ops k = false := by decide +kernel) (hx : ρ.ev x = some (.ptr b off) := by exact eLk) (hy : ρ.ev y = some a := by exact eLk) : wqE P T ops k (⟨d, .store t' x y, t, p, af, none⟩ :: rest) ps Q ρ h := VV hl (Eg hx hy hst) hw.1 hw.2
theorem JC (hp : ∀ p ∈ ps, p.holds T h) {l : List Oper} (hw : (∀ p ∈ ps, p.holds T h) → wqE P T ops k l ps Q ρ h) : wqE P T ops k l ps Q ρ h := hw hp
theorem Bi {q r : DZ} (h1 : q.holds T h) (h2 : r.holds T h) : ∀ p ∈ [q, r], p.holds T h := fun p hp => by
 rcases List.mem_cons.1 hp with rfl | hp
 ·exact h1
 ·rcases List.mem_singleton.1 hp with rfl; exact h2
theorem BX {b off : Nat} (hM : Mem B h L) (hh : Has L (.box b cs) f) (hT : T t' = some i) (ha : i.k.agg = false) (hq : cs[off]? = some v) (hx : ρ.ev x = some (.ptr b off) := by exact eLk) : (⟨ρ, .load t' x, v⟩ : DZ).holds T h := IF hx (hM.ld hh hT ha hq)
theorem BU {b off : Nat} (hM : Mem B h L) (hh : Has L (.box b cs) f) (hT : T t' = some i) (ha : i.k.agg = true) (hn : Nat.ble (off + i.size) cs.length = true) (hq : (cs.drop off).take i.size = ds) (hx : ρ.ev x = some (.ptr b off) := by exact eLk) : (⟨ρ, .load t' x, .agg ds⟩ : DZ).holds T h := IF hx (hM.ldA hh hT ha (Nat.le_of_ble_eq_true hn) hq)
end steps
end Go.Proofs.YtncjbjlmgnjhiaaGreat.VM
namespace Go.Proofs.YtncjbjlmgnjhiaaGreat.VM
open Go
set_option linter.unusedVariables false
set_option linter.unusedSimpArgs false
variable {T : Tab} {α : Type}
theorem bY {cs ws : List V} {k sz off : Nat} (h : k + sz ≤ cs.length) (ho : off + ws.length ≤ sz) : setL cs (k + off) ws = setL cs k (setL ((cs.drop k).take sz) off ws) := by
 apply List.ext_getElem?
 intro j
 have hl : (setL ((cs.drop k).take sz) off ws).length = sz := by rw [Ck, List.length_take, List.length_drop]; omega
 rw [Gt, Gt, hl]
 by_cases h1 : k + off ≤ j ∧ j < k + off + ws.length ∧ j < cs.length
 ·rw [if_pos h1, if_pos (by omega), Gt, if_pos (by rw [List.length_take, List.length_drop]; omega)]
  congr 1; omega
 ·rw [if_neg h1]
  by_cases h2 : k ≤ j ∧ j < k + sz ∧ j < cs.length
  ·rw [if_pos h2, Gt, if_neg (by rw [List.length_take, List.length_drop]; omega), List.getElem?_take, if_pos (by omega), List.getElem?_drop]
   congr 1; omega
  ·rw [if_neg h2]
theorem QN {t b off : Nat} {i : TI} {H : Heap} {cs : List V} {w : V} (hT : T t = some i) (hw : w.isTup = false) (hl : w.cells.length = i.size) (hb : H[b]? = some (.row cs true)) (hn : off + w.cells.length ≤ cs.length) : storeV T t H b off w = some (H.set b (.row (setL cs off w.cells) true)) := by
 unfold storeV
 split
 ·cases hw
 ·rename_i i' hT' _
  rw [hT] at hT'
  obtain rfl := Option.some.inj hT'
  rw [if_pos hl]
  unfold Heap.storeN
  rw [hb]
  simp only
  rw [if_pos hn]
 ·rename_i hT'
  rw [hT] at hT'
  cases hT'
theorem TB {sz : Nat} {R : List V → α → Prop} {H : Heap} {b : Nat} {v : V} {xs : List α} (ho : Own sz R H b v xs) {t e te : Nat} {i ie it : TI} (hT : T t = some i) (hk : i.k = .slice e) (hE : T e = some ie) (hs : ie.size = sz) {k : Nat} {x : α} (hx : xs[k]? = some x) (hTe : T te = some it) {off : Nat} (hoff : off + it.size ≤ sz) {w : V} {y : α}
  (hw : w.isTup = false) (hl : w.cells.length = it.size) (hR : ∀ cs, cs.length = sz → R cs x → R (setL cs off w.cells) y) : ∃ H', storeV T te H b (k * sz + off) w = some H' ∧ Own sz R H' b v (xs.set k y) ∧ Fr b H H' := by
 have hk' : k < xs.length := (List.getElem?_eq_some_iff.1 hx).1
 have hm : (k + 1) * sz ≤ xs.length * sz := Nat.mul_le_mul_right _ hk'
 rw [Nat.add_mul, Nat.one_mul] at hm
 obtain ⟨_, h2⟩ := ID ho hT hk hE hs hk'
 obtain ⟨cap, t', cs, rfl, g1, g2, g3, g4⟩ := ho
 have hfit : k * sz + sz ≤ cs.length := by have := g4.1; omega
 obtain ⟨el, hel⟩ : ∃ el, (cs.drop (k * sz)).take sz = el := ⟨_, rfl⟩
 have hell : el.length = sz := by rw [← hel, List.length_take, List.length_drop]; omega
 have hRx : R el x := hel ▸ g4.cell hx
 have hcl : (V.agg (setL el off w.cells)).cells.length = sz := by show (setL el off w.cells).length = sz; rw [Ck]; exact hell
 obtain ⟨H', e1, e2, e3⟩ := h2 (.agg (setL el off w.cells)) y rfl hcl (hR el hell hRx)
 refine ⟨H', ?_, e2, e3⟩
 rw [QN hE rfl (by rw [hcl, hs]) g2 (by rw [hcl]; exact hfit)] at e1
 rw [QN hTe hw hl g2 (by omega), bY hfit (by omega), hel]
 exact e1
theorem Mem.elemAt {sz : Nat} {R : List V → α → Prop} {B H : Heap} {v : V} {xs : List α} {L : List Res} {f : Res → List Res} (h : Mem B H L) (hh : Has L (.own sz R v xs) f) {t e te : Nat} {i ie it : TI} (hT : T t = some i) (hk : i.k = .slice e) (hE : T e = some ie) (hs : ie.size = sz) {k : Nat} {x : α} (hx : xs[k]? = some x) (off : Nat) (hTe : T te = some it) (hoff : off + it.size ≤ sz) :
  ∃ b, idxV T t v (k : Int) = some (.ptr b (k * sz)) ∧ ∀ w y, w.isTup = false → w.cells.length = it.size → (∀ cs, cs.length = sz → R cs x → R (setL cs off w.cells) y) → ∃ H', storeV T te H b (k * sz + off) w = some H' ∧ Mem B H' (f (.own sz R v (xs.set k y))) := by
 have hk' : k < xs.length := (List.getElem?_eq_some_iff.1 hx).1
 rcases h.get hh with ⟨rfl, rfl⟩ | ⟨b, ho⟩
 ·simp at hk'
 ·obtain ⟨h1, _⟩ := ID ho hT hk hE hs hk'
  refine ⟨b, h1, fun w y e1 e2 e3 => ?_⟩
  obtain ⟨H', g1, g2, g3⟩ := TB ho hT hk hE hs hx hTe hoff e1 e2 e3
  exact ⟨H', g1, h.VB hh g3.1 (fun c hc hne => g3.2 c hc fun e => hne (by subst e; exact ho.blk)) (.inr ⟨b, g2⟩) fun c hc => .inl hc⟩
end Go.Proofs.YtncjbjlmgnjhiaaGreat.VM
namespace Go.Proofs.YtncjbjlmgnjhiaaGreat.VM
open Go
set_option linter.unusedVariables false
set_option linter.unusedSimpArgs false
def AH (cs : List V) (n : Int) : Prop := cs = [.int .i64 n]
abbrev W (n : Int) : Int := IntKind.i64.wrap n
def within (x a b : Int) : Bool := decide (x ≥ a) && decide (x ≤ b)
abbrev CA (x : Int) : Bool := within x (-1073741824) 1073741824
def clip (x a b : Int) : Int := if x < a then a else if x > b then b else x
def cut (x : Int) : Int := clip x (-1073741824) 1073741824
def plus (a b : Int) : Int := cut (W (a + b))
def times (a b : Int) : Int := cut ((W (a * b)).fdiv 65536)
def PQ (x : Int) : Int := clip x (-65536) 65536
def RV (x : Int) : Int := if x > -65536 ∧ x < 65536 then 65536 else 0
def neg (x : Int) : Int := W (0 - x)
def dotFrom (s : Int) : List Int → List Int → Int
 | x :: xs, y :: ys => dotFrom (plus s (times x y)) xs ys
 | _, _ => s
abbrev dot (xs ys : List Int) : Int := dotFrom 0 xs ys
def BF (xs : List Int) : Bool := decide (xs.length ≤ 16) && xs.all fun x => CA x
def BL (i h : Int) : Bool := within i 1 3 && within h 1 3
def BA (i h : Nat) : Nat := h * (i + 1) + h + 1
def fits (i h : Int) (ws : List Int) : Bool := BL i h && BF ws && decide ((ws.length : Int) = h * (i + 1) + h + 1)
def Dz (i : Int) (xs : List Int) : Bool := decide ((xs.length : Int) = i) && BF xs
def unit (i : Nat) (ws xs : List Int) (h : Nat) : Int := plus (ws.getD (h * (i + 1) + i) 0) (dot ((ws.drop (h * (i + 1))).take i) xs)
def Et (i h : Nat) (ws xs : List Int) : List Int := (List.range h).map (unit i ws xs)
def FM (hs : List Int) : List Int := hs.map PQ
def JZ (i h : Nat) (ws hs : List Int) : Int := plus (ws.getD (h * (i + 1) + h) 0) (dot ((ws.drop (h * (i + 1))).take h) (FM hs))
def CR (i h : Nat) (ws xs : List Int) (e : Int) (hs : List Int) (k : Nat) : List Int :=
 let d := times (times e (ws.getD (h * (i + 1) + k) 0)) (RV (hs.getD k 0))
 xs.map (fun x => times d x) ++ [d]
def KT (i h : Nat) (ws xs : List Int) (y : Int) : List Int :=
 let hs := Et i h ws xs
 let e := plus (JZ i h ws hs) (neg y)
 (List.range h).flatMap (CR i h ws xs e hs) ++ ((FM hs).map (fun a => times e a) ++ [e])
theorem within_iff {x a b : Int} : within x a b = true ↔ a ≤ x ∧ x ≤ b := by simp [within]
theorem Ry (x : Int) {a b : Int} (h : a ≤ b) : a ≤ clip x a b ∧ clip x a b ≤ b := by unfold clip; split <;> (try split) <;> omega
theorem VS (x : Int) : CA (cut x) = true := within_iff.2 (Ry x (by decide))
theorem JQ (a b : Int) : CA (plus a b) = true := VS _
theorem Mc (a b : Int) : CA (times a b) = true := VS _
end Go.Proofs.YtncjbjlmgnjhiaaGreat.VM
namespace Go.Proofs.YtncjbjlmgnjhiaaGreat.VM
open Go
set_option linter.unusedVariables false
set_option linter.unusedSimpArgs false
variable {P : Program} {T : Tab}
def V.same : V → V → Bool
 | .int k a, .int k' b => decide (k = k') && decide (a = b)
 | .bool a, .bool b => a == b
 | .str a, .str b => decide (a = b)
 | .Co, .Co => true
 | .AN, .AN => true
 | .nilm, .nilm => true
 | _, _ => false
def V.sames : List V → List V → Bool
 | [], [] => true
 | a :: xs, b :: ys => V.same a b && V.sames xs ys
 | _, _ => false
theorem V.bW {a b : V} (h : V.same a b = true) : a = b := by
 unfold V.same at h
 split at h <;> simp_all
theorem V.TX : ∀ {xs ys : List V}, V.sames xs ys = true → xs = ys
 | [], [], _ => rfl
 | a :: xs, b :: ys, h => by
  simp only [V.sames, Bool.and_eq_true] at h
  rw [V.bW h.1, V.TX h.2]
 | [], _ :: _, h => by simp [V.sames] at h
 | _ :: _, [], h => by simp [V.sames] at h
def kindB (P : Program) (t : Nat) : TK → Bool
 | .bool => match P.underlying t with | some .bool => true | _ => false
 | .int k => match P.underlying t with | some (.int k') => decide (k' = k) | _ => false
 | .str => match P.underlying t with | some .string => true | _ => false
 | .strct fs => match P.underlying t with | some (.struct F) => decide (F.toList.map (fun f => (f.type, f.offset)) = fs) && F.toList.all (fun f => (P.info? f.type).isSome) | _ => false
 | .arr n e => match P.underlying t with | some (.array n' e') => decide (n' = n) && decide (e' = e) | _ => false
 | .slice e => match P.underlying t with | some (.slice e') => decide (e' = e) | _ => false
 | .ptr => match P.underlying t with | some (.pointer _) => true | _ => false
 | .map => match P.underlying t with
  | some (.map k e) => (match P.underlying k with | some (.int .i64) => true | _ => false) && (match P.info? e with | some q => (match q.zero with | some (.int .i64 n) => decide (n = 0) | _ => false) | none => false)
  | _ => false
 | .other => match P.underlying t with | some (.struct _) | some (.array ..) | none => false | _ => true
theorem Mr {α β : Type} {f : α → Option β} : ∀ {l : List α}, l.all (fun a => (f a).isSome) = true → ∃ ys, l.mapM f = some ys
 | [], _ => ⟨[], rfl⟩
 | a :: l, h => by
  simp only [List.all_cons, Bool.and_eq_true] at h
  obtain ⟨y, hy⟩ := Option.isSome_iff_exists.1 h.1
  obtain ⟨ys, hys⟩ := Mr h.2
  exact ⟨y :: ys, by rw [List.mapM_cons, hy, hys]; rfl⟩
theorem Vk {t : Nat} {k : TK} (h : kindB P t k = true) : k.fits P t := by
 cases k with
 | bool => simp only [kindB] at h; simp only [TK.fits]; split at h <;> first | assumption | cases h
 | int k => simp only [kindB] at h; simp only [TK.fits]; split at h <;> first | (simp only [decide_eq_true_eq] at h; subst h; assumption) | cases h
 | str => simp only [kindB] at h; simp only [TK.fits]; split at h <;> first | assumption | cases h
 | strct fs =>
  simp only [kindB] at h; simp only [TK.fits]
  split at h
  ·rename_i F hu
   simp only [Bool.and_eq_true, decide_eq_true_eq] at h
   obtain ⟨ys, hys⟩ := Mr (f := fun f : Field => (P.info? f.type).map fun i => (f.offset, i.size)) (l := F.toList) (by simpa using h.2)
   exact ⟨F, ys, hu, h.1, hys⟩
  ·cases h
 | arr n e => simp only [kindB] at h; simp only [TK.fits]; split at h <;> first | (simp only [Bool.and_eq_true, decide_eq_true_eq] at h; obtain ⟨rfl, rfl⟩ := h; assumption) | cases h
 | slice e => simp only [kindB] at h; simp only [TK.fits]; split at h <;> first | (simp only [decide_eq_true_eq] at h; subst h; assumption) | cases h
 | ptr => simp only [kindB] at h; simp only [TK.fits]; split at h <;> first | exact ⟨_, by assumption⟩ | cases h
 | map =>
  simp only [kindB] at h; simp only [TK.fits]
  split at h
  ·rename_i k e hu
   simp only [Bool.and_eq_true] at h
   obtain ⟨h1, h2⟩ := h
   split at h1
   ·rename_i hk
    split at h2
    ·rename_i q hq
     split at h2
     ·rename_i n hz
      simp only [decide_eq_true_eq] at h2
      subst h2
      exact ⟨k, e, q, hu, hk, hq, hz⟩
     ·cases h2
    ·cases h2
   ·cases h1
  ·cases h
 | other =>
  simp only [kindB] at h; simp only [TK.fits]
  split at h
  ·cases h
  ·cases h
  ·cases h
  ·rename_i d h1 h2 h3
   cases hu : P.underlying t with
   | none => exact absurd hu h3
   | some d => exact ⟨d, rfl, fun F e => h1 F (by rw [hu, e]), fun n e he => h2 n e (by rw [hu, he])⟩
def infoB (P : Program) (t : Nat) (i : TI) : Bool :=
 match P.info? t with
 | some q => decide (q.size = i.size) && decide (q.bytes = i.bytes) && (match q.zero with | some z => (match V.ofs z.cells.toList with | some vs => V.sames vs i.zero | none => false) | none => false) && decide (i.zero.length = i.size)
 | none => false
def CK.of : TK → Option CK
 | .bool => some .bool
 | .int _ => some .int
 | .str => some .str
 | _ => none
def kinds (P : Program) (T : Tab) : Nat → Nat → Option (List CK)
 | 0, _ => none
 | n + 1, t => match T t with
  | some i => match i.k with
   | .strct fs => if P.stoodInHeld t = false ∧ tiles T 0 fs = some i.size ∧ (P.fieldsOf t).toList.all (fun f => decide (f.name ≠ "_")) = true then (fs.mapM fun f => kinds P T n f.1).map List.flatten else none
   | k => if i.size = 1 then (CK.of k).map fun c => [c] else none
  | none => none
def cmpB (P : Program) (T : Tab) (t : Nat) (i : TI) : Bool :=
 match i.cmp with
 | [] => true
 | c :: cs => (match i.k with | .strct _ => true | _ => false) && decide (kinds P T 9 t = some (c :: cs)) && decide (P.eqGuardType P.depth t = false)
theorem NL : ∀ {ks : List CK} {xs ys : List V} {b : Bool}, eqs ks xs ys = some b → xs.length = ks.length ∧ ys.length = ks.length
 | [], [], [], _, _ => ⟨rfl, rfl⟩
 | k :: ks, x :: xs, y :: ys, b, h => by
  simp only [eqs] at h
  split at h
  ·rename_i h2
   have := NL h2
   simp [this.1, this.2]
  ·cases h
 | [], _ :: _, _, _, h => by simp [eqs] at h
 | [], [], _ :: _, _, h => by simp [eqs] at h
 | _ :: _, [], _, _, h => by simp [eqs] at h
 | _ :: _, _ :: _, [], _, h => by simp [eqs] at h
theorem VX : ∀ {ks ls : List CK} {xs ys : List V} {b : Bool}, eqs (ks ++ ls) xs ys = some b → ∃ p q, eqs ks (xs.take ks.length) (ys.take ks.length) = some p ∧ eqs ls (xs.drop ks.length) (ys.drop ks.length) = some q ∧ b = (p && q)
 | [], ls, xs, ys, b, h => ⟨true, b, by simp [eqs], by simpa using h, by simp⟩
 | k :: ks, ls, x :: xs, y :: ys, b, h => by
  simp only [List.cons_append, eqs] at h
  split at h
  ·rename_i a c h1 h2
   obtain ⟨p, q, g1, g2, rfl⟩ := VX h2
   simp only [Option.some.injEq] at h
   refine ⟨a && p, q, ?_, by simpa using g2, ?_⟩
   ·simp only [List.length_cons, List.take_succ_cons, eqs, h1, g1]
   ·rw [← h, Bool.and_assoc]
  ·cases h
 | _ :: _, _, [], _, _, h => by simp [eqs] at h
 | _ :: _, _, _ :: _, [], _, h => by simp [eqs] at h
theorem MH (hi : ∀ t i, T t = some i → True) : ∀ (n t : Nat) (ks : List CK) (i : TI), kinds P T n t = some ks → T t = some i → ks.length = i.size := by
 intro n
 induction n with
 | zero => intro t ks i h; cases h
 | succ n ih =>
  intro t ks i h hT
  unfold kinds at h
  rw [hT] at h
  simp only at h
  split at h
  ·rename_i fs hk
   split at h
   ·rename_i hc
    simp only [Option.map_eq_some_iff] at h
    obtain ⟨kss, hm, rfl⟩ := h
    obtain ⟨m1, m2⟩ := mapM_some hm
    have hl := Kk (cs := List.replicate i.size ()) (l := kss.map fun k => List.replicate k.length ()) hc.2.1 (by simp) (by simp [m1]) (fun j f fi x hf hfi hx => by
     simp only [List.getElem?_map, Option.map_eq_some_iff] at hx
     obtain ⟨k, hk, rfl⟩ := hx
     obtain ⟨k', hk', hq⟩ := m2 j f hf
     rw [hk] at hk'
     obtain rfl := Option.some.inj hk'
     have := ih f.1 k fi hq hfi
     have hin := Lk hc.2.1 hf hfi
     simp only [List.drop_replicate, List.take_replicate, this]
     congr 1
     omega)
    have hl2 := congrArg List.length hl
    simp only [List.length_flatten, List.map_map, List.length_take, List.length_drop, List.length_replicate] at hl2 ⊢
    have e : (List.length ∘ fun k : List CK => List.replicate k.length ()) = List.length := by funext k; simp
    rw [e] at hl2
    omega
   ·cases h
  ·split at h
   ·rename_i hs
    simp only [Option.map_eq_some_iff] at h
    obtain ⟨c, _, rfl⟩ := h
    simp [hs]
   ·cases h
theorem YT (hk : ∀ t i, T t = some i → kindB P t i.k = true ∧ infoB P t i = true) : ∀ (n t : Nat) (ks : List CK) (i : TI), kinds P T n t = some ks → T t = some i → ∀ (d : Nat), n ≤ d → ∀ (μ : Mu) (xs ys : List V) (cx cy : List Value) (b : Bool), VRs μ xs cx → VRs μ ys cy → eqs ks xs ys = some b →
  ∀ (X Y : Array Value) (off : Nat), (X.toList.drop off).take i.size = cx → (Y.toList.drop off).take i.size = cy → ∀ w, ∃ a c, (part t X off).run P w = .ok a w ∧ (part t Y off).run P w = .ok c w ∧ (Op.equalIn d t a c).run P w = .ok b w ∧ (∀ fs, i.k = .strct fs → a = .agg cx.toArray ∧ c = .agg cy.toArray) := by
 intro n
 induction n with
 | zero => intro t ks i h; cases h
 | succ n ih =>
  intro t ks i h hT d hd μ xs ys cx cy b hx hy he X Y off hX hY w
  have hlen := MH (P := P) (T := T) (fun _ _ _ => trivial) _ _ _ _ h hT
  have hel := NL he
  obtain ⟨hkind, hinfo⟩ := hk t i hT
  have hfit := Vk hkind
  unfold kinds at h
  rw [hT] at h
  simp only at h
  obtain ⟨d, rfl⟩ : ∃ e, d = e + 1 := ⟨d - 1, by omega⟩
  have hq : ∃ q, P.info? t = some q ∧ q.size = i.size := by
   unfold infoB at hinfo
   split at hinfo
   ·rename_i q hq
    simp only [Bool.and_eq_true, decide_eq_true_eq] at hinfo
    exact ⟨q, hq, hinfo.1.1.1⟩
   ·cases hinfo
  obtain ⟨q, hq, hqs⟩ := hq
  split at h
  ·rename_i fs hik
   rw [hik] at hfit
   obtain ⟨F, _, hu, hF, _⟩ := hfit
   split at h
   ·rename_i hc
    obtain ⟨c1, c2, c3⟩ := hc
    simp only [Option.map_eq_some_iff] at h
    obtain ⟨kss, hm, rfl⟩ := h
    have hpart : ∀ (Z : Array Value) (cz : List Value), (Z.toList.drop off).take i.size = cz → (part t Z off).run P w = .ok (.agg cz.toArray) w := fun Z cz hz => by
     unfold part
     simp only [isAgg, Sem.run_bind, Av hu, Result.andThen_ok, Sem.run_pure, if_true, CE hq, hqs]
     congr 2
     apply Array.toList_inj.1
     rw [← hz]
     simp [Array.toList_extract, List.extract_eq_take_drop]
    refine ⟨_, _, hpart X cx hX, hpart Y cy hY, ?_, fun _ _ => ⟨rfl, rfl⟩⟩
    have hfo : P.fieldsOf t = F := by unfold Program.fieldsOf; rw [hu]
    rw [run_equalIn_struct w d t _ _ (by rw [hfo]; exact hu) c1, hfo]
    rw [hfo] at c3
    -- field by field
    have walk : ∀ (fl : List Field) (o : Nat) (kl : List (List CK)) (us vs : List V) (b : Bool), tiles T o (fl.map fun f => (f.type, f.offset)) = some i.size → fl.all (fun f => decide (f.name ≠ "_")) = true →
      (fl.map fun f => (f.type, f.offset)).mapM (fun f => kinds P T n f.1) = some kl → VRs μ us (cx.drop o) → VRs μ vs (cy.drop o) → eqs kl.flatten us vs = some b → (Op.eqFields d cx.toArray cy.toArray fl).run P w = .ok b w := by
     intro fl
     induction fl with
     | nil =>
      intro o kl us vs b _ _ hm _ _ he
      simp at hm
      subst hm
      simp only [List.flatten_nil] at he
      have hl := NL he
      obtain rfl : us = [] := by simpa using hl.1
      obtain rfl : vs = [] := by simpa using hl.2
      simp only [eqs, Option.some.injEq] at he
      subst he
      simp [Op.eqFields]
     | cons f fl ihf =>
      intro o kl us vs b ht hn hm hus hvs he
      simp only [List.map_cons, tiles] at ht
      split at ht
      ·rename_i fi hfi
       split at ht
       ·rename_i ho
        subst ho
        simp only [List.all_cons, Bool.and_eq_true, decide_eq_true_eq] at hn
        rw [List.map_cons, List.mapM_cons] at hm
        cases hk1 : kinds P T n f.type with
        | none => simp [hk1] at hm
        | some k1 =>
         cases hk2 : (fl.map fun f => (f.type, f.offset)).mapM (fun f => kinds P T n f.1) with
         | none => simp [hk1, hk2] at hm
         | some kr =>
          simp [hk1, hk2] at hm
          subst hm
          have k1l := MH (P := P) (T := T) (fun _ _ _ => trivial) _ _ _ _ hk1 hfi
          simp only [List.flatten_cons] at he
          obtain ⟨p, r, e1, e2, rfl⟩ := VX he
          obtain ⟨a, c, p1, p2, p3, _⟩ := ih f.type k1 fi hk1 hfi d (by omega) μ _ _ _ _ p (hus.take k1.length) (hvs.take k1.length) e1 cx.toArray cy.toArray f.offset (by simp [k1l]) (by simp [k1l]) w
          have p4 := ihf (f.offset + fi.size) kr _ _ r ht hn.2 hk2 (by rw [← List.drop_drop, ← k1l]; exact hus.drop k1.length) (by rw [← List.drop_drop, ← k1l]; exact hvs.drop k1.length) e2
          simp only [Op.eqFields, ne_eq, hn.1, not_false_eq_true, if_true, Sem.run_bind, p1, p2, p3, Result.andThen_ok]
          cases p
          ·simp
          ·simp [p4]
       ·cases ht
      ·cases ht
    exact walk F.toList 0 kss xs ys b (by rw [hF]; exact c2) c3 (by rw [hF]; exact hm) (by simpa using hx) (by simpa using hy) he
   ·cases h
  ·rename_i hns
   split at h
   ·rename_i hs
    simp only [Option.map_eq_some_iff] at h
    obtain ⟨c, hc, rfl⟩ := h
    match xs, ys, hel, hx, hy, he with
    | [x], [y], _, hx, hy, he =>
     obtain ⟨vx, rfl, rx⟩ := hx.single
     obtain ⟨vy, rfl, ry⟩ := hy.single
     simp only [eqs] at he
     split at he
     ·rename_i a b' e1 e2
      simp only [Option.some.injEq] at he e2
      subst e2
      simp only [Bool.and_true] at he
      subst he
      have hX0 : X[off]? = some vx := by
       have := congrArg (fun l => l[0]?) hX
       simpa [List.getElem?_take, hs] using this
      have hY0 : Y[off]? = some vy := by
       have := congrArg (fun l => l[0]?) hY
       simpa [List.getElem?_take, hs] using this
      have leaf : ∀ {ty : TypeDesc}, P.underlying t = some ty → (∀ F, ty ≠ .struct F) → (∀ n e, ty ≠ .array n e) → (Op.equalIn (d + 1) t vx vy).run P w = .ok a w → ∃ a' c', (part t X off).run P w = .ok a' w ∧ (part t Y off).run P w = .ok c' w ∧ (Op.equalIn (d + 1) t a' c').run P w = .ok a w ∧ (∀ fs, i.k = .strct fs → a' = .agg [vx].toArray ∧ c' = .agg [vy].toArray) := fun {ty} hu h1 h2 h3 => by
       have hp : ∀ (Z : Array Value) (v : Value), Z[off]? = some v → (part t Z off).run P w = .ok v w := fun Z v hz => by
        unfold part
        simp only [isAgg, Sem.run_bind, Av hu, Result.andThen_ok, Sem.run_pure]
        cases ty <;> first | (exact absurd rfl (h1 _)) | (exact absurd rfl (h2 _ _)) | simp [hz]
       exact ⟨_, _, hp X vx hX0, hp Y vy hY0, h3, fun fs hfs => absurd hfs (hns fs)⟩
      cases hik : i.k with
      | bool =>
       rw [hik] at hc hfit
       simp only [CK.of, Option.some.injEq] at hc
       subst hc
       cases x <;> cases y <;> simp only [V.eq1, reduceCtorEq, Option.some.injEq] at e1
       simp only [VR] at rx ry
       subst rx; subst ry; subst e1
       obtain ⟨a', c', q1, q2, q3, _⟩ := leaf hfit nofun nofun (run_equalIn_bool' w d t _ _ hfit)
       exact ⟨a', c', q1, q2, q3, nofun⟩
      | int k =>
       rw [hik] at hc hfit
       simp only [CK.of, Option.some.injEq] at hc
       subst hc
       cases x <;> cases y <;> simp only [V.eq1, reduceCtorEq, Option.some.injEq] at e1
       split at e1
       ·rename_i hkk
        subst hkk
        simp only [Option.some.injEq] at e1
        simp only [VR] at rx ry
        subst rx; subst ry; subst e1
        obtain ⟨a', c', q1, q2, q3, _⟩ := leaf hfit nofun nofun (run_equalIn_int w d t _ _ _ _ hfit)
        exact ⟨a', c', q1, q2, q3, nofun⟩
       ·cases e1
      | str =>
       rw [hik] at hc hfit
       simp only [CK.of, Option.some.injEq] at hc
       subst hc
       cases x <;> cases y <;> simp only [V.eq1, reduceCtorEq, Option.some.injEq] at e1
       simp only [VR] at rx ry
       subst rx; subst ry; subst e1
       obtain ⟨a', c', q1, q2, q3, _⟩ := leaf hfit nofun nofun (run_equalIn_string w d t _ _ hfit)
       exact ⟨a', c', q1, q2, q3, nofun⟩
      | strct fs => exact absurd hik (hns fs)
      | arr => rw [hik] at hc; cases hc
      | slice => rw [hik] at hc; cases hc
      | ptr => rw [hik] at hc; cases hc
      | map => rw [hik] at hc; cases hc
      | other => rw [hik] at hc; cases hc
     ·cases he
    | [], _, h, _, _, _ => simp at h
    | _ :: _ :: _, _, h, _, _, _ => simp at h
    | [_], [], h, _, _, _ => simp at h
    | [_], _ :: _ :: _, h, _, _, _ => simp at h
   ·cases h
def tabB (P : Program) (T : Tab) : Nat → List (Option TI) → Bool
 | _, [] => true
 | t, none :: r => tabB P T (t + 1) r
 | t, some i :: r => kindB P t i.k && infoB P t i && cmpB P T t i && tabB P T (t + 1) r
theorem Rh : ∀ {l : List (Option TI)} {t j : Nat} {i : TI}, tabB P T t l = true → l[j]? = some (some i) → (kindB P (t + j) i.k = true ∧ infoB P (t + j) i = true) ∧ cmpB P T (t + j) i = true
 | [], _, _, _, _, h => by simp at h
 | none :: r, t, j, i, hb, h => by
  cases j with
  | zero => simp at h
  | succ j =>
   have := Rh (l := r) (t := t + 1) (j := j) (i := i) hb (by simpa using h)
   rwa [show t + 1 + j = t + (j + 1) by omega] at this
 | some k :: r, t, j, i, hb, h => by
  simp only [tabB, Bool.and_eq_true] at hb
  cases j with
  | zero => simp at h; subst h; exact hb.1
  | succ j =>
   have := Rh (l := r) (t := t + 1) (j := j) (i := i) hb.2 (by simpa using h)
   rwa [show t + 1 + j = t + (j + 1) by omega] at this
theorem aR {l : List (Option TI)} (hT : T = fun t => (l[t]?).join) (h : tabB P T 0 l = true) : Fits P T := by
 have get : ∀ t i, T t = some i → l[t]? = some (some i) := fun t i ht => by
  rw [hT] at ht
  cases hl : l[t]? with
  | none => simp [hl] at ht
  | some o => simp [hl] at ht; rw [ht]
 have hall : ∀ t i, T t = some i → (kindB P t i.k = true ∧ infoB P t i = true) ∧ cmpB P T t i = true := fun t i ht => by
  have := Rh h (get t i ht)
  rwa [Nat.zero_add] at this
 intro t i ht
 obtain ⟨⟨h1, h2⟩, h3⟩ := hall t i ht
 refine ⟨?_, Vk h1, fun hc μ xs ys cx cy b hx hy he w => ?_⟩
 ·unfold infoB at h2
  split at h2
  ·rename_i q hq
   simp only [Bool.and_eq_true, decide_eq_true_eq] at h2
   obtain ⟨⟨⟨a1, a2⟩, a3⟩, a4⟩ := h2
   split at a3
   ·rename_i z hz
    split at a3
    ·rename_i vs hvs
     obtain rfl := V.TX a3
     exact ⟨q, z, hq, a1, a2, hz, fun μ => (VRs.Fm _ hvs).1, (VRs.Fm (μ := fun _ => none) _ hvs).2, a4⟩
    ·cases a3
   ·cases a3
  ·cases h2
 ·unfold cmpB at h3
  split at h3
  ·rename_i e; exact absurd e hc
  ·rename_i c cs e
   simp only [Bool.and_eq_true, decide_eq_true_eq] at h3
   obtain ⟨⟨h0, h3⟩, h4⟩ := h3
   rw [e] at he
   have hl := MH (P := P) (T := T) (fun _ _ _ => trivial) _ _ _ _ h3 ht
   have hel := NL he
   have hxl := hx.length
   have hyl := hy.length
   have hX : (cx.toList.drop 0).take i.size = cx.toList := by rw [List.drop_zero, List.take_of_length_le (by omega)]
   have hY : (cy.toList.drop 0).take i.size = cy.toList := by rw [List.drop_zero, List.take_of_length_le (by omega)]
   obtain ⟨a, k, p1, p2, p3, p4⟩ := YT (fun t i ht => (hall t i ht).1) 9 t _ i h3 ht Op.maxDepth (by decide) μ xs ys _ _ b hx hy he cx cy 0 hX hY w
   refine ⟨?_, fun op x y => run_eqGuard_agg w op t x y cx cy h4⟩
   split at h0
   ·rename_i fs hk
    obtain ⟨rfl, rfl⟩ := p4 fs hk
    simpa [Op.equal] using p3
   ·cases h0
end Go.Proofs.YtncjbjlmgnjhiaaGreat.VM
