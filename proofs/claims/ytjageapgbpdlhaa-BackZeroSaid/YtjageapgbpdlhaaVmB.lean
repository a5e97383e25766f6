/- THE SMALL MACHINE, part B: its memory's moves, held against the model's. -/
import Derived.Test.YtjageapgbpdlhaaVmA
namespace Go.Proofs.Ytjageapgbpdlhaa.VM
open Go
set_option linter.unusedSimpArgs false
set_option linter.unusedVariables false
set_option linter.unusedSectionVars false

theorem add_at (B o n : Nat) : (⟨B, o, none⟩ : Addr).add n = ⟨B, o + n, none⟩ := by
  unfold Addr.add; split
  · subst_vars; rfl
  · rfl

theorem one' {μ : Mu} {v : V} {w : Value} (h : VR μ v w) (h1 : v.one = true) : w.oneCell' = true := by
  have h2 := VR.oneValue h h1
  cases w <;> first | rfl | (exact absurd rfl (h2.1 _)) | (exact absurd rfl (h2.2 _))

theorem cell?_heap {w w' : World} (h : w'.heap = w.heap) (a : Addr) : w'.cell? a = w.cell? a := by simp [World.cell?, h]
theorem frozen?_heap {w w' : World} (h : w'.heap = w.heap) (a : Addr) : w'.frozen? a = w.frozen? a := by simp [World.frozen?, h]

theorem Sim.of_heap {μ : Mu} {H : Heap} {w w' : World} (s : Sim μ H w) (h : w'.heap = w.heap) : Sim μ H w' :=
  ⟨fun b x hx => by rw [h]; exact s.lt b x hx,
   fun b x cs wr hx hb i v hi => by rw [cell?_heap h]; exact s.row b x cs wr hx hb i v hi,
   fun b x cs wr hx hb => by simp only [cell?_heap h]; exact s.ext b x cs wr hx hb,
   fun b x cs hx hb i hi => by rw [frozen?_heap h]; exact s.free b x cs hx hb i hi,
   s.sole, fun b x es hx hb => by rw [h]; exact s.mp b x es hx hb⟩

theorem Tr.of_heap {μ : Mu} {H : Heap} {w w' : World} (h : w'.heap = w.heap) (ho : w'.os = w.os) (ht : w'.tape = w.tape) (hp : w'.output = w.output) : Tr μ H w μ H w' :=
  ⟨Mu.Le.refl _, fun b x h h' => by simp [h] at h', fun _ k h => ⟨k, h, Blk.Le.refl k⟩, by rw [h]; exact Nat.le_refl _, fun B _ _ => by rw [h], ho, ht, hp⟩

def Mu.put (μ : Mu) (b : Nat) (x : Loc) : Mu := fun b' => if b' = b then some x else μ b'
theorem Mu.put_same (μ : Mu) (b : Nat) (x : Loc) : μ.put b x b = some x := by simp [Mu.put]
theorem Mu.put_ne {μ : Mu} {b b' : Nat} (x : Loc) (h : b' ≠ b) : μ.put b x b' = μ b' := by simp [Mu.put, h]
theorem Mu.le_put {μ : Mu} {b : Nat} (x : Loc) (h : μ b = none) : Mu.Le μ (μ.put b x) := fun b' y hy => by
  have : b' ≠ b := fun e => by subst e; simp [h] at hy
  rw [Mu.put_ne x this]; exact hy

theorem Sim.none_len {μ : Mu} {H : Heap} {w : World} (s : Sim μ H w) : μ H.length = none := by
  cases h : μ H.length with
  | none => rfl
  | some x => exact absurd (s.lt _ _ h).1 (Nat.lt_irrefl _)

theorem get_snoc {H : Heap} {k : Blk} {b : Nat} {k' : Blk} (h : (H ++ [k])[b]? = some k') : (b = H.length ∧ k' = k) ∨ (b < H.length ∧ H[b]? = some k') := by
  rw [List.getElem?_append] at h
  split at h
  · rename_i hb; exact .inr ⟨hb, h⟩
  · rename_i hb
    have : b - H.length = 0 := by
      apply Nat.eq_zero_of_le_zero
      apply Nat.le_of_not_lt
      intro hlt
      rw [List.getElem?_eq_none (by simp; omega)] at h
      cases h
    rw [this] at h
    simp at h
    exact .inl ⟨by omega, h.symm⟩

theorem stay_snoc (H : Heap) (k : Blk) (b : Nat) (q : Blk) (h : H[b]? = some q) : ∃ k', (H ++ [k])[b]? = some k' ∧ q.Le k' := by
  have hlt : b < H.length := (List.getElem?_eq_some_iff.1 h).1
  exact ⟨q, by rw [List.getElem?_append_left hlt]; exact h, Blk.Le.refl q⟩

/-- a new block -/
theorem sim_new {μ : Mu} {H : Heap} {w : World} (s : Sim μ H w) (cs : List V) (wr : Bool) (n : Nat) (cvs : Array Value) (e : TypeId) (fr : Nat × Nat)
    (hn : cs.length ≤ n) (hn' : n ≤ cvs.size)
    (hc : ∀ (i : Nat) v, cs[i]? = some v → v.one = true ∧ ∃ cv, cvs[i]? = some cv ∧ VR μ v cv) (hf : ∀ i, i < n → (decide (fr.1 ≤ i) && decide (i < fr.2)) = false) :
    Sim (μ.put H.length ⟨w.heap.size, 0, n⟩) (H ++ [.row cs wr]) (w.alloc (.cells cvs e fr)) ∧
    Tr μ H w (μ.put H.length ⟨w.heap.size, 0, n⟩) (H ++ [.row cs wr]) (w.alloc (.cells cvs e fr)) := by
  have hnone := s.none_len
  have hle : Mu.Le μ (μ.put H.length ⟨w.heap.size, 0, n⟩) := Mu.le_put _ hnone
  have hnew : ∀ i, (w.alloc (.cells cvs e fr)).cell? ⟨w.heap.size, i, none⟩ = cvs[i]? := fun i => by show (match (w.heap.push (.cells cvs e fr))[w.heap.size]? with | some (.cells c _ _) => _ | _ => _) = _; simp
  have hfr : ∀ i, i < n → (w.alloc (.cells cvs e fr)).frozen? ⟨w.heap.size, i, none⟩ = false := fun i hi => by
    have := hf i hi
    obtain ⟨lo, hi'⟩ := fr
    show (match (w.heap.push (.cells cvs e (lo, hi')))[w.heap.size]? with | some (.cells _ _ (lo, hi)) => decide (lo ≤ i) && decide (i < hi) | _ => false) = false
    simpa using this
  have old : ∀ b x, μ b = some x → ∀ i, (w.alloc (.cells cvs e fr)).cell? ⟨x.B, x.o + i, none⟩ = w.cell? ⟨x.B, x.o + i, none⟩ := fun b x hx i =>
    World.cell?_alloc_lt w _ _ (s.lt b x hx).2
  have oldf : ∀ b x, μ b = some x → ∀ i, (w.alloc (.cells cvs e fr)).frozen? ⟨x.B, x.o + i, none⟩ = w.frozen? ⟨x.B, x.o + i, none⟩ := fun b x hx i =>
    World.frozen?_alloc_old w _ _ (Nat.ne_of_lt (s.lt b x hx).2)
  have split : ∀ b x, μ.put H.length ⟨w.heap.size, 0, n⟩ b = some x → (b = H.length ∧ x = ⟨w.heap.size, 0, n⟩) ∨ (b ≠ H.length ∧ μ b = some x) := fun b x hx => by
    by_cases hb : b = H.length
    · subst hb; rw [Mu.put_same] at hx; exact .inl ⟨rfl, (Option.some.inj hx).symm⟩
    · rw [Mu.put_ne _ hb] at hx; exact .inr ⟨hb, hx⟩
  have oldk : ∀ b k, b ≠ H.length → (H ++ [Blk.row cs wr])[b]? = some k → H[b]? = some k := fun b k hb hk => by
    rcases get_snoc hk with ⟨h1, _⟩ | ⟨_, h2⟩
    · exact absurd h1 hb
    · exact h2
  have newk : ∀ k, (H ++ [Blk.row cs wr])[H.length]? = some k → k = .row cs wr := fun k hk => by
    rcases get_snoc hk with ⟨_, h2⟩ | ⟨h1, _⟩
    · exact h2
    · exact absurd h1 (Nat.lt_irrefl _)
  refine ⟨⟨?_, ?_, ?_, ?_, ?_, ?_⟩, ?_⟩
  · intro b x hx
    rcases split b x hx with ⟨rfl, rfl⟩ | ⟨_, h⟩
    · simp
    · have := s.lt b x h; simp; omega
  · intro b x cs' wr' hx hb i v hi
    rcases split b x hx with ⟨rfl, rfl⟩ | ⟨hne, h⟩
    · have := newk _ hb
      injection this with e1 e2
      subst e1
      obtain ⟨h1, cv, h2, h3⟩ := hc i v hi
      exact ⟨h1, cv, by simp only [Nat.zero_add]; rw [hnew]; exact h2, h3.mono hle⟩
    · obtain ⟨h1, cv, h2, h3⟩ := s.row b x cs' wr' h (oldk _ _ hne hb) i v hi
      exact ⟨h1, cv, by rw [old b x h]; exact h2, h3.mono hle⟩
  · intro b x cs' wr' hx hb
    rcases split b x hx with ⟨rfl, rfl⟩ | ⟨hne, h⟩
    · have := newk _ hb
      injection this with e1 e2
      subst e1
      refine ⟨hn, fun i hi => ?_⟩
      simp only [Nat.zero_add]
      rw [hnew]
      have : i < cvs.size := Nat.lt_of_lt_of_le hi hn'
      exact ⟨cvs[i], by simp [this]⟩
    · obtain ⟨h2, h3⟩ := s.ext b x cs' wr' h (oldk _ _ hne hb)
      exact ⟨h2, fun i hi => by rw [old b x h]; exact h3 i hi⟩
  · intro b x cs' hx hb i hi
    rcases split b x hx with ⟨rfl, rfl⟩ | ⟨hne, h⟩
    · simp only [Nat.zero_add]; exact hfr i hi
    · rw [oldf b x h]; exact s.free b x cs' h (oldk _ _ hne hb) i hi
  · intro b x k hx hb ho b' x' k' hne' hx' hb' hd
    rcases split b x hx with ⟨rfl, rfl⟩ | ⟨hne, h⟩ <;> rcases split b' x' hx' with ⟨rfl, rfl⟩ | ⟨hne2, h'⟩
    · exact absurd rfl hne'
    · exact Nat.ne_of_lt (s.lt b' x' h').2
    · exact fun e => Nat.ne_of_lt (s.lt b x h).2 e.symm
    · exact s.sole b x k h (oldk _ _ hne hb) ho b' x' k' hne' h' (oldk _ _ hne2 hb') hd
  · intro b x es hx hb
    rcases split b x hx with ⟨rfl, rfl⟩ | ⟨hne, h⟩
    · have := newk _ hb; cases this
    · obtain ⟨m, cl, h1, h2⟩ := s.mp b x es h (oldk _ _ hne hb)
      refine ⟨m, cl, ?_, h2⟩
      simp only [World.alloc]
      rw [Array.getElem?_push, if_neg (Nat.ne_of_lt (s.lt b x h).2)]
      exact h1
  · refine ⟨hle, fun b x hx hno => ?_, stay_snoc H _, by simp, fun B hB _ => ?_, rfl, rfl, rfl⟩
    · rcases split b x hx with ⟨rfl, rfl⟩ | ⟨_, h⟩
      · exact ⟨Nat.le_refl _, .inl (Nat.le_refl _)⟩
      · rw [h] at hno; cases hno
    · simp only [World.alloc]
      rw [Array.getElem?_push, if_neg (Nat.ne_of_lt hB)]

theorem get_set {H : Heap} {b b' : Nat} {k k' : Blk} (h : (H.set b k)[b']? = some k') : (b' = b ∧ k' = k) ∨ (b' ≠ b ∧ H[b']? = some k') := by
  rw [List.getElem?_set] at h
  by_cases hb : b = b'
  · subst hb
    simp only [if_true] at h
    split at h
    · simp at h; exact .inl ⟨rfl, h.symm⟩
    · cases h
  · simp only [hb, if_false] at h
    exact .inr ⟨fun e => hb e.symm, h⟩

theorem set_get {H : Heap} {b : Nat} {q : Blk} (k : Blk) (h : H[b]? = some q) : (H.set b k)[b]? = some k := by
  have : b < H.length := (List.getElem?_eq_some_iff.1 h).1
  simp [this]

theorem stay_set {H : Heap} {b : Nat} {q k : Blk} (h : H[b]? = some q) (hle : q.Le k) (b' : Nat) (q' : Blk) (h' : H[b']? = some q') : ∃ k', (H.set b k)[b']? = some k' ∧ q'.Le k' := by
  by_cases hb : b' = b
  · subst hb
    obtain rfl : q = q' := Option.some.inj (h.symm.trans h')
    exact ⟨k, set_get k h, hle⟩
  · exact ⟨q', by rw [List.getElem?_set_ne (fun e => hb e.symm)]; exact h', Blk.Le.refl _⟩

/-- one cell is written -/
theorem sim_set {μ : Mu} {H : Heap} {w : World} (s : Sim μ H w) {b : Nat} {x : Loc} {cs : List V} {i : Nat} (hx : μ b = some x) (hb : H[b]? = some (.row cs true)) (hi : i < cs.length)
    {v : V} {cv : Value} (hv : VR μ v cv) (h1 : v.one = true) :
    (∃ u, w.cell? ⟨x.B, x.o + i, none⟩ = some u) ∧ w.frozen? ⟨x.B, x.o + i, none⟩ = false ∧
    Sim μ (H.set b (.row (cs.set i v) true)) (w.setCell ⟨x.B, x.o + i, none⟩ cv) ∧ Tr μ H w μ (H.set b (.row (cs.set i v) true)) (w.setCell ⟨x.B, x.o + i, none⟩ cv) := by
  obtain ⟨e2, e3⟩ := s.ext b x cs true hx hb
  obtain ⟨u, hu⟩ := e3 i (Nat.lt_of_lt_of_le hi e2)
  refine ⟨⟨u, hu⟩, s.free b x cs hx hb i (Nat.lt_of_lt_of_le hi e2), ⟨?_, ?_, ?_, ?_, ?_, ?_⟩, ?_⟩
  · intro b' x' hx'; have := s.lt b' x' hx'; simpa using this
  · intro b' x' cs' wr' hx' hb' j v' hj
    rcases get_set hb' with ⟨rfl, hk⟩ | ⟨hne, hk⟩
    · injection hk with k1 k2
      subst k1 k2
      obtain rfl : x = x' := Option.some.inj (hx.symm.trans hx')
      rw [List.getElem?_set] at hj
      by_cases hij : i = j
      · subst hij
        simp [hi] at hj
        subst hj
        exact ⟨h1, cv, World.cell?_setCell_same w _ _ hu, hv⟩
      · simp only [hij, if_false] at hj
        obtain ⟨q1, q2, q3, q4⟩ := s.row _ x cs true hx hb j v' hj
        exact ⟨q1, q2, by rw [World.cell?_setCell_other w _ _ _ (fun e => hij (by injection e with _ e2 _; omega))]; exact q3, q4⟩
    · obtain ⟨q1, q2, q3, q4⟩ := s.row b' x' cs' wr' hx' hk j v' hj
      have hB := s.sole b x _ hx hb rfl b' x' _ hne hx' hk (by simp)
      exact ⟨q1, q2, by rw [World.cell?_setCell_other w _ _ _ (fun e => hB (by injection e with e1 _ _; exact e1.symm))]; exact q3, q4⟩
  · intro b' x' cs' wr' hx' hb'
    have keep : ∀ a, (∃ cv, w.cell? a = some cv) → ∃ cv', (w.setCell ⟨x.B, x.o + i, none⟩ cv).cell? a = some cv' := fun a ⟨q, hq⟩ => by
      by_cases ha : (⟨x.B, x.o + i, none⟩ : Addr) = a
      · subst ha; exact ⟨cv, World.cell?_setCell_same w _ _ hu⟩
      · exact ⟨q, by rw [World.cell?_setCell_other w _ _ _ ha]; exact hq⟩
    rcases get_set hb' with ⟨rfl, hk⟩ | ⟨hne, hk⟩
    · injection hk with k1 k2
      subst k1 k2
      obtain rfl : x = x' := Option.some.inj (hx.symm.trans hx')
      exact ⟨by simpa using e2, fun j hj => keep _ (e3 j hj)⟩
    · obtain ⟨q2, q3⟩ := s.ext b' x' cs' wr' hx' hk
      exact ⟨q2, fun j hj => keep _ (q3 j hj)⟩
  · intro b' x' cs' hx' hb' j hj
    rw [World.frozen?_setCell]
    rcases get_set hb' with ⟨rfl, hk⟩ | ⟨hne, hk⟩
    · obtain rfl : x = x' := Option.some.inj (hx.symm.trans hx')
      exact s.free _ x cs hx hb j hj
    · exact s.free b' x' cs' hx' hk j hj
  · intro b1 x1 k1 hx1 hb1 ho b2 x2 k2 hne hx2 hb2 hd
    rcases get_set hb1 with ⟨rfl, hk⟩ | ⟨hne1, hk⟩ <;> rcases get_set hb2 with ⟨rfl, hk'⟩ | ⟨hne2, hk'⟩
    · exact absurd rfl hne
    · exact s.sole b1 x1 _ hx1 hb rfl b2 x2 k2 hne hx2 hk' hd
    · exact s.sole b1 x1 k1 hx1 hk ho b2 x2 _ hne hx2 hb (by simp)
    · exact s.sole b1 x1 k1 hx1 hk ho b2 x2 k2 hne hx2 hk' hd
  · intro b' x' es hx' hb'
    rcases get_set hb' with ⟨rfl, hk⟩ | ⟨hne, hk⟩
    · cases hk
    · obtain ⟨m, cl, q1, q2⟩ := s.mp b' x' es hx' hk
      have hB := s.sole b x _ hx hb rfl b' x' _ hne hx' hk (by simp)
      exact ⟨m, cl, by simp only [World.setCell, Array.getElem?_modify]; rw [if_neg (fun e => hB e.symm)]; exact q1, q2⟩
  · refine ⟨Mu.Le.refl _, fun b x h h' => by simp [h] at h', stay_set hb (by simp [Blk.Le]), by simp, fun B hB hno => ?_, rfl, rfl, rfl⟩
    have := hno b x _ hx hb rfl
    simp only [World.setCell, Array.getElem?_modify]
    rw [if_neg this]

def setL {α : Type} : List α → Nat → List α → List α
  | cs, _, [] => cs
  | cs, i, v :: vs => setL (cs.set i v) (i + 1) vs

theorem setL_length {α : Type} (cs : List α) (i : Nat) (vs : List α) : (setL cs i vs).length = cs.length := by
  induction vs generalizing cs i with
  | nil => rfl
  | cons v vs ih => simp only [setL]; rw [ih]; simp

theorem set_set (H : Heap) (b : Nat) (k k' : Blk) : (H.set b k).set b k' = H.set b k' := by
  rw [List.set_set]

theorem run_storeOne (P : Program) {w : World} {a : Addr} {v u : Value} (hv : v.oneCell' = true) (hu : w.cell? a = some u) (hf : w.frozen? a = false) : (store a v).run P w = .ok () (w.setCell a v) := by
  rw [run_store P w a v _ hv]; simp [hu, hf]

theorem sim_storeCells (P : Program) {μ : Mu} {b : Nat} {x : Loc} {off : Nat} (hx : μ b = some x) : ∀ (vs : List V) (ws : List Value) (j : Nat) (cs : List V) (H : Heap) (w : World), Sim μ H w →
    H[b]? = some (.row cs true) → off + j + vs.length ≤ cs.length → VRs μ vs ws → (∀ v ∈ vs, v.one = true) →
    ∃ w', (storeCells ⟨x.B, x.o + off, none⟩ ws j).run P w = .ok () w' ∧ Sim μ (H.set b (.row (setL cs (off + j) vs) true)) w' ∧ Tr μ H w μ (H.set b (.row (setL cs (off + j) vs) true)) w' := by
  intro vs
  induction vs with
  | nil =>
    intro ws j cs H w s hb _ hr _
    simp only [VRs] at hr
    subst hr
    have : H.set b (.row (setL cs (off + j) []) true) = H := by
      simp only [setL]
      have hlt : b < H.length := (List.getElem?_eq_some_iff.1 hb).1
      have hg : H[b] = .row cs true := (List.getElem?_eq_some_iff.1 hb).2
      rw [← hg, List.set_getElem_self]
    rw [this]
    exact ⟨w, rfl, s, Tr.refl _ _ _⟩
  | cons v vs ih =>
    intro ws j cs H w s hb hl hr h1
    simp only [VRs] at hr
    obtain ⟨cv, ws', rfl, hv, hr'⟩ := hr
    simp only [List.length_cons] at hl
    obtain ⟨⟨u, hu⟩, hf, s', t'⟩ := sim_set s hx hb (show off + j < cs.length by omega) hv (h1 v (by simp))
    have e : x.o + (off + j) = x.o + off + j := by omega
    rw [e] at hu hf s' t'
    obtain ⟨w', hrun, s'', t''⟩ := ih ws' (j + 1) (cs.set (off + j) v) _ _ s' (set_get _ hb) (by simp; omega) hr' (fun u hu => h1 u (by simp [hu]))
    rw [set_set] at s'' t''
    refine ⟨w', ?_, by simpa only [setL, Nat.add_assoc] using s'', ?_⟩
    · simp only [storeCells, Sem.run_bind, add_at]
      rw [run_storeOne P (one' hv (h1 v (by simp))) hu hf]
      exact hrun
    · have := Tr.trans t' t'' (fun b x h => (s.lt b x h).1)
      simpa only [setL, Nat.add_assoc] using this

theorem sim_loadFrom (P : Program) {μ : Mu} {b : Nat} {x : Loc} {off : Nat} {wr : Bool} {cs : List V} {H : Heap} {w : World} (s : Sim μ H w) (hx : μ b = some x) (hb : H[b]? = some (.row cs wr)) : ∀ (n i : Nat) (acc : Array Value),
    off + i + n ≤ cs.length → ∃ ws : List Value, (∀ w', w'.heap = w.heap → (loadCellsFrom ⟨x.B, x.o + off, none⟩ i n acc).run P w' = .ok (acc ++ ws.toArray) w') ∧ VRs μ ((cs.drop (off + i)).take n) ws ∧ ∀ v ∈ (cs.drop (off + i)).take n, v.one = true := by
  intro n
  induction n with
  | zero => intro i acc _; exact ⟨[], fun w' _ => by simp [loadCellsFrom], by simp [VRs], by simp⟩
  | succ n ih =>
    intro i acc hl
    have hlt : off + i < cs.length := by omega
    have hg : cs[off + i]? = some cs[off + i] := by simp [hlt]
    obtain ⟨h1, cv, h2, h3⟩ := s.row b x cs wr hx hb (off + i) _ hg
    obtain ⟨ws, k1, k2, k3⟩ := ih (i + 1) (acc.push cv) (by omega)
    have hd : (cs.drop (off + i)).take (n + 1) = cs[off + i] :: (cs.drop (off + (i + 1))).take n := by
      rw [List.drop_eq_getElem_cons hlt]; rfl
    refine ⟨cv :: ws, fun w' hw => ?_, by rw [hd]; simp only [VRs]; exact ⟨cv, ws, rfl, h3, k2⟩, by
      rw [hd]; intro v hv; simp only [List.mem_cons] at hv; rcases hv with rfl | hv
      · exact h1
      · exact k3 v hv⟩
    simp only [loadCellsFrom, Sem.run_bind, add_at, run_load]
    have e : x.o + off + i = x.o + (off + i) := by omega
    rw [e, cell?_heap hw, h2]
    simp only [Result.andThen_ok]
    rw [k1 w' hw]
    simp

def Heap.loadN (h : Heap) (b off n : Nat) : Option (List V) :=
  match h[b]? with
  | some (.row cs _) => if off + n ≤ cs.length then some ((cs.drop off).take n) else none
  | _ => none

def Heap.storeN (h : Heap) (b off : Nat) (vs : List V) : Option Heap :=
  match h[b]? with
  | some (.row cs true) => if off + vs.length ≤ cs.length then some (h.set b (.row (setL cs off vs) true)) else none
  | _ => none

theorem sim_loadCells (P : Program) {μ : Mu} {H : Heap} {w : World} (s : Sim μ H w) {b : Nat} {x : Loc} {off n : Nat} {vs : List V} (hx : μ b = some x) (h : H.loadN b off n = some vs) :
    ∃ ws : Array Value, (∀ w', w'.heap = w.heap → (loadCells ⟨x.B, x.o + off, none⟩ n).run P w' = .ok ws w') ∧ VRs μ vs ws.toList ∧ (∀ v ∈ vs, v.one = true) ∧ vs.length = n := by
  unfold Heap.loadN at h
  split at h
  · rename_i cs wr hb
    split at h
    · rename_i hl
      simp only [Option.some.injEq] at h
      subst h
      obtain ⟨ws, h1, h2, h3⟩ := sim_loadFrom P (off := off) s hx hb n 0 #[] (by omega)
      refine ⟨ws.toArray, fun w' hw => by simpa [loadCells] using h1 w' hw, by simpa using h2, by simpa using h3, by simp; omega⟩
    · cases h
  · cases h

theorem sim_storeN (P : Program) {μ : Mu} {H H' : Heap} {w : World} (s : Sim μ H w) {b : Nat} {x : Loc} {off : Nat} {vs : List V} {ws : List Value} (hx : μ b = some x) (h : H.storeN b off vs = some H')
    (hr : VRs μ vs ws) (h1 : ∀ v ∈ vs, v.one = true) :
    ∃ w', (storeCells ⟨x.B, x.o + off, none⟩ ws 0).run P w = .ok () w' ∧ Sim μ H' w' ∧ Tr μ H w μ H' w' := by
  unfold Heap.storeN at h
  split at h
  · rename_i cs hb
    split at h
    · rename_i hl
      simp only [Option.some.injEq] at h
      subst h
      exact sim_storeCells P hx vs ws 0 cs H w s hb (by omega) hr h1
    · cases h
  · cases h

/-- a block is given up -/
theorem sim_kill {μ : Mu} {H : Heap} {w : World} (s : Sim μ H w) {b : Nat} {cs : List V} (hb : H[b]? = some (.row cs true)) : Sim μ (H.set b .dead) w ∧ Tr μ H w μ (H.set b .dead) w := by
  have old : ∀ b' k, (H.set b .dead)[b']? = some k → k ≠ Blk.dead → H[b']? = some k := fun b' k h hd => by
    rcases get_set h with ⟨_, rfl⟩ | ⟨_, h'⟩
    · exact absurd rfl hd
    · exact h'
  refine ⟨⟨fun b' x' h => by simpa using s.lt b' x' h, ?_, ?_, ?_, ?_, ?_⟩, ⟨Mu.Le.refl _, fun b x h h' => by simp [h] at h', stay_set hb (by simp [Blk.Le]), Nat.le_refl _, fun _ _ _ => rfl, rfl, rfl, rfl⟩⟩
  · intro b' x' cs' wr' hx' hb'; exact s.row b' x' cs' wr' hx' (old _ _ hb' (by simp))
  · intro b' x' cs' wr' hx' hb'; exact s.ext b' x' cs' wr' hx' (old _ _ hb' (by simp))
  · intro b' x' cs' hx' hb'; exact s.free b' x' cs' hx' (old _ _ hb' (by simp))
  · intro b1 x1 k1 hx1 hb1 ho b2 x2 k2 hne hx2 hb2 hd
    exact s.sole b1 x1 k1 hx1 (old _ _ hb1 (fun e => by subst e; simp [Blk.own] at ho)) ho b2 x2 k2 hne hx2 (old _ _ hb2 hd) hd
  · intro b' x' es hx' hb'; exact s.mp b' x' es hx' (old _ _ hb' (by simp))

end Go.Proofs.Ytjageapgbpdlhaa.VM
