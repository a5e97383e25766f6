/- THE SMALL MACHINE, part W: what was handed in, as lists and numbers. -/
import Derived.Test.YtjageapgbpdlhaaVmV
import Derived.Test.YtjageapgbpdlhaaVmP
namespace Go.Proofs.Ytjageapgbpdlhaa.VM
open Go
set_option linter.unusedVariables false
set_option linter.unusedSimpArgs false

variable {T : Tab} {α : Type} {D : Type}

theorem Rd.isInt {K : Heap} {t : Nat} {i : TI} {k : IntKind} {cs : List V} {d : DataW D} (hT : T t = some i) (hk : i.k = .int k) (h : Rd T K t cs d) : ∃ n, cs = [.int k n] ∧ k.min ≤ n ∧ n ≤ k.max := by
  cases h with
  | int h hk' lo hi => rw [hT] at h; cases h; rw [hk] at hk'; cases hk'; exact ⟨_, rfl, lo, hi⟩
  | bool h hk' => rw [hT] at h; cases h; rw [hk] at hk'; cases hk'
  | str h hk' => rw [hT] at h; cases h; rw [hk] at hk'; cases hk'
  | nils h hk' => rw [hT] at h; cases h; rw [hk] at hk'; cases hk'
  | slc h hk' => rw [hT] at h; cases h; rw [hk] at hk'; cases hk'
  | strct h hk' => rw [hT] at h; cases h; rw [hk] at hk'; cases hk'

theorem Rd.isBool {K : Heap} {t : Nat} {i : TI} {cs : List V} {d : DataW D} (hT : T t = some i) (hk : i.k = .bool) (h : Rd T K t cs d) : ∃ b, cs = [.bool b] := by
  cases h with
  | bool h hk' => exact ⟨_, rfl⟩
  | int h hk' => rw [hT] at h; cases h; rw [hk] at hk'; cases hk'
  | str h hk' => rw [hT] at h; cases h; rw [hk] at hk'; cases hk'
  | nils h hk' => rw [hT] at h; cases h; rw [hk] at hk'; cases hk'
  | slc h hk' => rw [hT] at h; cases h; rw [hk] at hk'; cases hk'
  | strct h hk' => rw [hT] at h; cases h; rw [hk] at hk'; cases hk'

theorem Rd.isStr {K : Heap} {t : Nat} {i : TI} {cs : List V} {d : DataW D} (hT : T t = some i) (hk : i.k = .str) (h : Rd T K t cs d) : ∃ s, cs = [.str s] ∧ s.size ≤ reachBytes := by
  cases h with
  | str h hk' hs => exact ⟨_, rfl, hs⟩
  | int h hk' => rw [hT] at h; cases h; rw [hk] at hk'; cases hk'
  | bool h hk' => rw [hT] at h; cases h; rw [hk] at hk'; cases hk'
  | nils h hk' => rw [hT] at h; cases h; rw [hk] at hk'; cases hk'
  | slc h hk' => rw [hT] at h; cases h; rw [hk] at hk'; cases hk'
  | strct h hk' => rw [hT] at h; cases h; rw [hk] at hk'; cases hk'

theorem Rd.field {K : Heap} {t : Nat} {i : TI} {fs : List (Nat × Nat)} {cs : List V} {d : DataW D} (hT : T t = some i) (hk : i.k = .strct fs) (h : Rd T K t cs d) :
    cs.length = i.size ∧ ∀ (j : Nat) f fi, fs[j]? = some f → T f.1 = some fi → ∃ x : DataW D, Rd T K f.1 ((cs.drop f.2).take fi.size) x := by
  cases h with
  | strct h hk' hl hp hd =>
    rw [hT] at h; cases h; rw [hk] at hk'; cases hk'
    refine ⟨hl, fun j f fi hf hfi => ?_⟩
    rename_i parts
    have hj : j < parts.length := by rw [hp]; exact (List.getElem?_eq_some_iff.1 hf).1
    exact ⟨parts[j], hd j f fi _ hf hfi (by simp [hj])⟩
  | int h hk' => rw [hT] at h; cases h; rw [hk] at hk'; cases hk'
  | bool h hk' => rw [hT] at h; cases h; rw [hk] at hk'; cases hk'
  | nils h hk' => rw [hT] at h; cases h; rw [hk] at hk'; cases hk'
  | slc h hk' => rw [hT] at h; cases h; rw [hk] at hk'; cases hk'
  | str h hk' => rw [hT] at h; cases h; rw [hk] at hk'; cases hk'

theorem list_of {R : Nat → α → Prop} : ∀ (n : Nat), (∀ j, j < n → ∃ x, R j x) → ∃ xs : List α, xs.length = n ∧ ∀ (j : Nat) x, xs[j]? = some x → R j x
  | 0, _ => ⟨[], rfl, by simp⟩
  | n + 1, h => by
    obtain ⟨xs, h1, h2⟩ := list_of n fun j hj => h j (by omega)
    obtain ⟨x, hx⟩ := h n (by omega)
    refine ⟨xs ++ [x], by simp [h1], fun j y hy => ?_⟩
    by_cases hj : j < n
    · rw [List.getElem?_append_left (by omega)] at hy; exact h2 j y hy
    · rw [List.getElem?_append_right (by omega)] at hy
      have : j = n := by
        have := (List.getElem?_eq_some_iff.1 hy).1
        simp at this; omega
      subst this
      simp [h1] at hy
      subst hy; exact hx

/-- a slice that was handed in: with its capacity it weighs so much at most -/
theorem Rd.isSlice {K : Heap} {t e : Nat} {i ie : TI} {v : V} {d : DataW D} {R : List V → α → Prop} (hT : T t = some i) (hk : i.k = .slice e) (hE : T e = some ie) (hR : ∀ cs (x : DataW D), Rd T K e cs x → ∃ y, R cs y) (h : Rd T K t [v] d) :
    ∃ xs, Sl ie.size R K v xs ∧ xs.length * ie.bytes ≤ reachBytes := by
  cases h with
  | nils h hk' => exact ⟨[], .inl ⟨rfl, rfl⟩, by simp⟩
  | slc h hk' he hl hc hb hr hcs hd =>
    rename_i i' e' ie' b len cap cs elems spare
    rw [hT] at h; cases h; rw [hk] at hk'; cases hk'; rw [hE] at he; cases he
    have hlen : len ≤ cap := by omega
    obtain ⟨xs, h1, h2⟩ := list_of (R := fun j y => R ((cs.drop (j * ie.size)).take ie.size) y) len fun j hj => by
      have hj' : j < (elems ++ spare).length := by simp; omega
      exact hR _ _ (hd j ((elems ++ spare)[j]) (by simp [hj']))
    refine ⟨xs, .inr ⟨b, 0, cap, true, cs, false, by rw [h1], by omega, hr, ?_, fun k x hx => by rw [Nat.zero_add]; exact h2 k x hx⟩, ?_⟩
    · have : xs.length * ie.size ≤ cap * ie.size := Nat.mul_le_mul_right _ (by omega)
      omega
    · have : xs.length * ie.bytes ≤ cap * ie.bytes := Nat.mul_le_mul_right _ (by omega)
      omega
  | int h hk' => rw [hT] at h; cases h; rw [hk] at hk'; cases hk'
  | bool h hk' => rw [hT] at h; cases h; rw [hk] at hk'; cases hk'
  | str h hk' => rw [hT] at h; cases h; rw [hk] at hk'; cases hk'
  | strct h hk' => rw [hT] at h; cases h; rw [hk] at hk'; cases hk'

theorem RdV.plain {K : Heap} {t : Nat} {i : TI} {v : V} {d : DataW D} (hT : T t = some i) (ha : i.k.agg = false) (h : RdV T K t v d) : Rd T K t [v] d := by
  obtain ⟨i', h1, h2⟩ := h
  rw [hT] at h1; cases h1
  rcases h2 with ⟨h2, _⟩ | ⟨_, h2⟩
  · rw [ha] at h2; cases h2
  · exact h2
theorem RdV.agg {K : Heap} {t : Nat} {i : TI} {v : V} {d : DataW D} (hT : T t = some i) (ha : i.k.agg = true) (h : RdV T K t v d) : ∃ vs, v = .agg vs ∧ Rd T K t vs d := by
  obtain ⟨i', h1, h2⟩ := h
  rw [hT] at h1; cases h1
  rcases h2 with ⟨_, h2⟩ | ⟨h2, _⟩
  · exact h2
  · rw [ha] at h2; cases h2
theorem RdV.int {K : Heap} {t : Nat} {i : TI} {k : IntKind} {v : V} {d : DataW D} (hT : T t = some i) (hk : i.k = .int k) (h : RdV T K t v d) : ∃ n, v = .int k n ∧ k.min ≤ n ∧ n ≤ k.max := by
  obtain ⟨n, h1, h2⟩ := (h.plain hT (by rw [hk]; rfl)).isInt hT hk
  simp only [List.cons.injEq, and_true] at h1
  exact ⟨n, h1, h2⟩

/-- the arguments one by one -/
theorem rdAll_cons {K : Heap} {t : Nat} {ts : List Nat} {vs : List V} {ds : List (DataW D)} (h : RdAll T K (t :: ts) vs ds) : ∃ v vs' d ds', vs = v :: vs' ∧ ds = d :: ds' ∧ RdV T K t v d ∧ RdAll T K ts vs' ds' := by
  match vs, ds, h with
  | v :: vs', d :: ds', ⟨h1, h2⟩ => exact ⟨v, vs', d, ds', rfl, rfl, h1, h2⟩
theorem rdAll_nil {K : Heap} {vs : List V} {ds : List (DataW D)} (h : RdAll T K [] vs ds) : vs = [] ∧ ds = [] := by
  match vs, ds, h with
  | [], [], _ => exact ⟨rfl, rfl⟩
end Go.Proofs.Ytjageapgbpdlhaa.VM
