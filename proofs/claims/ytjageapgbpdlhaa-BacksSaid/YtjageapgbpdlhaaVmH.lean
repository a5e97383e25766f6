/- THE SMALL MACHINE, part H: append, copy, clear, maps; all operations on memory are the model's. -/
import Derived.Test.YtjageapgbpdlhaaVmG
namespace Go.Proofs.Ytjageapgbpdlhaa.VM
open Go
set_option linter.unusedVariables false
set_option linter.unusedSimpArgs false

variable {P : Program} {T : Tab} {μ : Mu}

theorem loadN_length {H : Heap} {b off n : Nat} {cs : List V} (h : H.loadN b off n = some cs) : cs.length = n := by
  unfold Heap.loadN at h
  split at h
  · split at h
    · simp only [Option.some.injEq] at h; subst h; simp; omega
    · cases h
  · cases h

theorem loadCells_zero (a : Addr) (w : World) : (loadCells a 0).run P w = .ok #[] w := rfl

/-- the cells of a slice -/
theorem firstCells_sound {H : Heap} {w : World} (s : Sim μ H w) {b off len cap n size : Nat} {t : Bool} {sz : Nat} {cv : Value} (hv : VR μ (.slc b off len cap t sz) cv) (hn : n = 0 ∨ 0 < cap) {cs : List V} (h : H.loadN b off (n * size) = some cs ∨ (n = 0 ∧ cs = [])) :
    ∃ ws : Array Value, (∀ w', w'.heap = w.heap → (Builtin.firstCells size n cv).run P w' = .ok ws w') ∧ VRs μ cs ws.toList ∧ (∀ c ∈ cs, c.one = true) := by
  simp only [VR] at hv
  obtain ⟨a, c, ev, k1, k2, k3, k45⟩ := hv
  subst ev
  by_cases h0 : n = 0
  · subst h0
    have hcs : cs = [] := by
      rcases h with h | ⟨_, h⟩
      · have := loadN_length h; simp at this; exact this
      · exact h
    subst hcs
    refine ⟨#[], fun w' _ => ?_, by simp [VRs], by simp⟩
    simp only [Builtin.firstCells, Nat.zero_mul]
    rfl
  · have hc : 0 < cap := hn.resolve_left h0
    rcases k45 with ⟨_, q2⟩ | ⟨y, o, hy, rfl, k4, k5⟩
    · omega
    obtain rfl := k5 hc
    have h' := h.resolve_right (fun h => h0 h.1)
    obtain ⟨ws, h1, h2, h3, _⟩ := sim_loadCells P s hy h'
    exact ⟨ws, fun w' hw => h1 w' hw, h2, h3⟩

theorem firstCells_nil (size n : Nat) (w : World) : (Builtin.firstCells size n (.slice none 0 0)).run P w = .ok #[] w := rfl

theorem extract_all (s : ByteArray) : (s.extract 0 s.size).data = s.data := by
  simp [ByteArray.data_extract]

theorem newsOf_sound (fit : Fits P T) {H : Heap} {w : World} (s : Sim μ H w) {elem : Nat} {i : TI} (hE : T elem = some i) {t2 : Nat} {x : V} {cx : Value} (hx : VR μ x cx) {n : Nat} {news : List V} (h : newsOf T i t2 x H = some (n, news)) (hl : news.length = n * i.size) :
    ∃ zs ws, News P t2 elem i.bytes i.size n cx zs ws w ∧ VRs μ news ws.toList ∧ ∀ c ∈ news, c.one = true := by
  obtain ⟨q, z, hq, q1, q2, q3, q4, q5, q6⟩ := (fit _ _ hE).info
  unfold newsOf at h
  split at h
  · rename_i m hT
    split at h
    · rename_i hm
      obtain ⟨m0, m1, m2⟩ := hm
      simp only [Option.some.injEq, Prod.mk.injEq] at h
      obtain ⟨rfl, rfl⟩ := h
      have hz := zeros_sound (q4 μ) m.toNat
      have hzl : z.cells.size = i.size := by have := (q4 μ).length; simp only [Array.length_toList] at this; omega
      refine ⟨true, _, ⟨.inl ⟨rfl, _, (fit _ _ hT).kind⟩, .inl ⟨rfl, _, m, hx.int, m0, m2, ?_, rfl⟩, fun w' _ => ?_⟩, hz, ones_zeros q5 _⟩
      · have : (2 : Int) ^ 47 ≤ 2 ^ 48 := by decide
        omega
      · unfold appC
        simp only [Bool.not_true, Bool.false_eq_true, if_false]
        split
        · rename_i h0
          rw [Sem.run_pure]
          congr 1
          symm
          apply Array.eq_empty_of_size_eq_zero
          simp only [Array.size_map, Array.size_range]
          rw [hzl]; exact h0
        · simp [run_zero hq q3, Builtin.zeroCells]
    · cases h
  · rename_i hT
    simp only [Option.some.injEq, Prod.mk.injEq] at h
    obtain ⟨rfl, rfl⟩ := h
    rw [hx.nils]
    exact ⟨false, #[], ⟨.inr ⟨rfl, .inl ⟨_, (fit _ _ hT).kind⟩⟩, .inr ⟨rfl, fun w => rfl⟩, fun w' _ => rfl⟩, by simp [VRs], by simp⟩
  · rename_i b off m cap t sz hT
    have hlen : ∀ w : World, (Builtin.lenOf cx).run P w = .ok m w := fun w => by
      have hx' := hx
      simp only [VR] at hx'
      obtain ⟨_, _, rfl, _⟩ := hx'
      rfl
    have hcap : m ≤ cap := by
      have hx' := hx
      simp only [VR] at hx'
      obtain ⟨_, _, rfl, k, _⟩ := hx'
      exact k
    have done : ∀ {k : Nat} {l : List V}, k = m → (H.loadN b off (m * i.size) = some l ∨ (m = 0 ∧ l = [])) → ∃ zs ws, News P t2 elem i.bytes i.size k cx zs ws w ∧ VRs μ l ws.toList ∧ ∀ c ∈ l, c.one = true := by
      intro k l hk hl'
      subst hk
      obtain ⟨ws, h1, h2, h3⟩ := firstCells_sound s hx (by omega : k = 0 ∨ 0 < cap) hl' (P := P)
      exact ⟨false, ws, ⟨.inr ⟨rfl, .inl ⟨_, (fit _ _ hT).kind⟩⟩, .inr ⟨rfl, hlen⟩, fun w' hw => by unfold appC; simpa using h1 w' hw⟩, h2, h3⟩
    split at h
    · rename_i h0
      simp only [Option.some.injEq, Prod.mk.injEq] at h
      obtain ⟨rfl, rfl⟩ := h
      exact done h0.symm (.inr ⟨h0, rfl⟩)
    · simp only [Option.map_eq_some_iff, Prod.mk.injEq] at h
      obtain ⟨cs, hcs, rfl, rfl⟩ := h
      exact done rfl (.inl hcs)
  · rename_i b hT
    simp only [Option.some.injEq, Prod.mk.injEq] at h
    obtain ⟨rfl, rfl⟩ := h
    rw [hx.str]
    refine ⟨false, b.data.map fun b => .int .u8 b.toNat, ⟨.inr ⟨rfl, .inr (fit _ _ hT).kind⟩, .inr ⟨rfl, fun w => rfl⟩, fun w' _ => ?_⟩, by simpa using bytesOf_sound b, bytesOf_ones b⟩
    unfold appC
    simp only [Bool.not_false, if_true, Builtin.firstCells, Sem.run_pure]
    rw [extract_all]
  · cases h

theorem new_row_VR {H : Heap} {w : World} (s : Sim μ H w) (e : TypeId) (size k : Nat) (cs : List V) (cvs rest : Array Value) (h : VRs μ cs cvs.toList) (h1 : ∀ c ∈ cs, c.one = true) {len cap : Nat} (hk : len ≤ k) (hk2 : k ≤ cap) {t : Bool} (ht : t = true → cap = k) (hs : (cvs ++ rest).size = cap * size) :
    ∃ μ', VR μ' (.slc H.length 0 len k t size) (.slice (some ⟨w.heap.size, 0, none⟩) len cap) ∧ Sim μ' (H ++ [.row cs true]) (w.alloc (.cells (cvs ++ rest) e)) ∧ Tr μ H w μ' (H ++ [.row cs true]) (w.alloc (.cells (cvs ++ rest) e)) := by
  obtain ⟨μ', h2, h3, h4⟩ := new_spare s e (0, 0) cs cvs rest h h1 (.inl rfl)
  refine ⟨μ', ?_, h3, h4⟩
  simp only [VR]
  exact ⟨_, cap, rfl, hk, hk2, ht, .inr ⟨_, 0, h2, rfl, by simp only [hs]; omega, fun _ => rfl⟩⟩

theorem append_sound (fit : Fits P T) {H H' : Heap} {w : World} (s : Sim μ H w) {t1 t2 elem n ty : Nat} {i : TI} (hu : P.underlying t1 = some (.slice elem)) (hE : T elem = some i) {sv v : V} {cs cx : Value} {news : List V} (hs : VR μ sv cs)
    (hnews : news.length = n * i.size → ∃ zs ws, News P t2 elem i.bytes i.size n cx zs ws w ∧ VRs μ news ws.toList ∧ ∀ c ∈ news, c.one = true) (h : appendV i sv n news H = some (v, H')) :
    ∃ cv w' μ', (Builtin.append_ #[t1, t2] ty #[cs, cx]).run P w = .ok cv w' ∧ VR μ' v cv ∧ Sim μ' H' w' ∧ Tr μ H w μ' H' w' := by
  obtain ⟨q, z, hq, q1, q2, q3, q4, q5, q6⟩ := (fit _ _ hE).info
  have hzs : z.cells.size = i.size := by have := (q4 μ).length; simp only [Array.length_toList] at this; omega
  unfold appendV at h
  split at h
  · cases h
  rename_i hl
  simp only [ne_eq, Decidable.not_not] at hl
  obtain ⟨zs, ws, hN, hws, hone⟩ := hnews hl
  have hwl : ws.size = n * i.size := by have := hws.length; simp only [Array.length_toList] at this; omega
  have hb : ∀ {l k : Nat}, (l + k) * q.bytes = (l + k) * i.bytes := by rw [q2]; intros; rfl
  split at h
  · -- nil
    rw [hs.nils]
    split at h
    · rename_i h0
      simp only [Option.some.injEq, Prod.mk.injEq] at h
      obtain ⟨rfl, rfl⟩ := h
      subst h0
      exact ⟨_, w, μ, append_fits hu hq q1 q2 hN (Nat.le_refl _), VR.mk_nils, s, Tr.refl _ _ _⟩
    · rename_i h0
      split at h
      · rename_i hbd
        simp only [Option.some.injEq, Prod.mk.injEq] at h
        obtain ⟨rfl, rfl⟩ := h
        obtain ⟨rest, hrun, hrest⟩ := append_grows (ty := ty) hu hq q3 q1 q2 hzs hN (base := none) (sLen := 0) (sCap := 0) (by omega) rfl (by simpa using hbd.1) (by simpa using hbd.2)
        have hge := grownCap_ge w (0 + n) 0 elem
        obtain ⟨μ', k1, k2, k3⟩ := new_row_VR s.drew elem i.size n news ws rest hws hone (len := n) (cap := grownCap w (0 + n) 0 elem) (t := false) (Nat.le_refl _) (by omega) nofun (by
          rw [Array.size_append, hwl, hrest, ← Nat.add_mul]; congr 1; omega)
        refine ⟨_, _, μ', hrun, ?_, ?_, ?_⟩
        · simpa using k1
        · simpa using k2
        · simpa using (Tr.drew H w).trans k3 (fun b x h => (s.lt b x h).1)
      · cases h
  · rename_i b off len cap t sz
    have hs0 := hs
    simp only [VR] at hs
    obtain ⟨a, c, ev, k1, k2, k3, k45⟩ := hs
    split at h
    · cases h
    rename_i hsz
    simp only [ne_eq, Decidable.not_not] at hsz
    split at h
    · rename_i hfit
      split at h
      · rename_i h0
        subst h0
        simp only [Option.some.injEq, Prod.mk.injEq] at h
        obtain ⟨rfl, rfl⟩ := h
        have hw0 : ws.toList = [] := by
          have : ws.size = 0 := by simpa using hwl
          simpa using this
        refine ⟨_, w, μ, ?_, hs0, s, Tr.refl _ _ _⟩
        rw [ev, append_fits hu hq q1 q2 hN (by omega)]
        simp only [hw0, storeCells, Sem.run_pure, Result.andThen_ok, Nat.add_zero]
      · rename_i h0
        simp only [Option.map_eq_some_iff, Prod.mk.injEq] at h
        obtain ⟨h', hst, rfl, rfl⟩ := h
        rcases k45 with ⟨_, q2⟩ | ⟨y, o, hy, rfl, k4, k5⟩
        · omega
        obtain rfl := k5 (by omega)
        obtain ⟨w', r1, r2, r3⟩ := sim_storeN P s hy hst hws hone
        refine ⟨.slice (some ⟨y.B, y.o + o, none⟩) (len + n) c, w', μ, ?_, ?_, r2, r3⟩
        · rw [ev, append_fits hu hq q1 q2 hN (by omega)]
          simp only [add_at, Nat.add_assoc] at r1 ⊢
          rw [r1]
          rfl
        · simp only [VR]
          exact ⟨_, c, rfl, by omega, k2, k3, .inr ⟨y, o, hy, rfl, k4, fun _ => rfl⟩⟩
    · rename_i hfit
      split at h
      · rename_i hbd
        split at h
        · rename_i cells wr old hrow hold
          have hlen0 : len = 0 ∨ 0 < cap := by omega
          obtain ⟨wold, hf1, hf2, hf3⟩ := firstCells_sound (P := P) (n := len) (size := i.size) s hs0 hlen0 (.inl hold)
          have hol : wold.size = len * i.size := by have := hf2.length; have := loadN_length hold; simp only [Array.length_toList] at *; omega
          have both := hf2.append hws
          have bone : ∀ c ∈ old ++ news, c.one = true := fun c hc => by
            rcases List.mem_append.1 hc with h | h
            · exact hf3 c h
            · exact hone c h
          have grow : c < len + n → ∀ (K : Heap), Sim μ K w → K.length = H.length → ∃ cv w' μ', (Builtin.append_ #[t1, t2] ty #[cs, cx]).run P w = .ok cv w' ∧ VR μ' (.slc H.length 0 (len + n) (len + n) false sz) cv ∧ Sim μ' (K ++ [.row (old ++ news) true]) w' ∧ Tr μ K w μ' (K ++ [.row (old ++ news) true]) w' := by
            intro hc K sK hK
            obtain ⟨rest, hrun, hrest⟩ := append_grows (ty := ty) hu hq q3 q1 q2 hzs hN (base := some a) (sLen := len) (sCap := c) (old := wold) hc (by rw [← ev]; exact hf1 _ rfl) hbd.1 hbd.2
            have hge := grownCap_ge w (len + n) c elem
            obtain ⟨μ', g1, g2, g3⟩ := new_row_VR sK.drew elem i.size (len + n) (old ++ news) (wold ++ ws) rest (by simpa using both) bone (len := len + n) (cap := grownCap w (len + n) c elem) (t := false) (Nat.le_refl _) hge nofun (by
              rw [Array.size_append, Array.size_append, hol, hwl, hrest, ← Nat.add_mul, ← Nat.add_mul]; congr 1; omega)
            rw [hK, ← hsz] at g1
            exact ⟨_, _, μ', by rw [ev]; exact hrun, by simpa using g1, g2, (Tr.drew K w).trans g3 (fun b x h => (sK.lt b x h).1)⟩
          split at h
          · rename_i ht
            simp only [Option.some.injEq, Prod.mk.injEq] at h
            obtain ⟨rfl, rfl⟩ := h
            exact grow (by have := k3 ht; omega) H s rfl
          · split at h
            · rename_i hnt hwr
              subst hwr
              rcases k45 with ⟨q1, _⟩ | ⟨y, o, hy, rfl, k4, k5⟩
              · exact absurd q1 hnt
              simp only [Option.some.injEq, Prod.mk.injEq] at h
              obtain ⟨rfl, rfl⟩ := h
              obtain ⟨sk, tk⟩ := sim_kill s hrow
              by_cases hc : c < len + n
              · obtain ⟨cv, w', μ', g1, g2, g3, g4⟩ := grow hc (H.set b .dead) sk (by simp)
                exact ⟨cv, w', μ', g1, g2, g3, tk.trans g4 (fun b x h => (s.lt b x h).1)⟩
              · -- the model has room: it writes behind the old ones
                obtain ⟨e1, e2⟩ := s.ext b y cells true hy hrow
                have hcn : (len + n) * i.size ≤ y.n - o := by
                  have : (len + n) * i.size ≤ c * i.size := Nat.mul_le_mul_right _ (by omega)
                  rw [hsz] at k4
                  omega
                have hon : o ≤ y.n := by omega
                have hmul : (len + n) * i.size = len * i.size + n * i.size := Nat.add_mul ..
                have hws1 : ∀ v ∈ ws.toList, v.oneCell' = true := fun v hv => by
                  obtain ⟨j, hj, rfl⟩ := List.mem_iff_getElem.1 hv
                  have hjl : j < news.length := by rw [hl, ← hwl]; simpa using hj
                  obtain ⟨u, hu', hr'⟩ := hws.get (i := j) (v := news[j]) (by simp [hjl])
                  have : ws.toList[j] = u := by
                    have := (List.getElem?_eq_some_iff.1 hu').2
                    exact this
                  rw [this]
                  exact one' hr' (hone _ (List.getElem_mem hjl))
                obtain ⟨w', r1, r2, r3, r4, r5, r6, r7, r8, r9, r10⟩ := run_storeCells_ext P y.B ws.toList (y.o + o + len * i.size) 0 w hws1 (fun j _ hj => by
                  have hj' : j < n * i.size := by rw [← hwl]; simpa using hj
                  rw [show y.o + o + len * i.size + j = y.o + (o + len * i.size + j) by omega]
                  exact ⟨e2 _ (by omega), s.free b y cells hy hrow _ (by omega)⟩)
                refine ⟨.slice (some ⟨y.B, y.o + o, none⟩) (len + n) c, w', μ.put H.length ⟨y.B, y.o + o, y.n - o⟩, ?_, ?_, ?_, ?_⟩
                · rw [ev, append_fits hu hq q1 q2 hN (by omega)]
                  simp only [add_at]
                  rw [r1]
                  rfl
                · simp only [VR]
                  refine ⟨_, c, rfl, Nat.le_refl _, by omega, nofun, .inr ⟨_, 0, Mu.put_same _ _ _, rfl, ?_, fun _ => rfl⟩⟩
                  simp only
                  omega
                · have hK : (H.set b Blk.dead).length = H.length := by simp
                  rw [← hK]
                  refine sim_alias sk (s.lt b y hy).2 ?_ r6 r7 hon ?_ (fun j hj => r5 _ (e2 j hj)) (fun j hj => by rw [r4]; exact s.free b y cells hy hrow j hj) ?_
                  · intro b' x k hx hk hd
                    rcases get_set hk with ⟨_, rfl⟩ | ⟨hne, hk'⟩
                    · exact absurd rfl hd
                    · exact s.sole b y _ hy hrow rfl b' x k hne hx hk' hd
                  · rw [List.length_append, loadN_length hold, hl, ← hmul]; exact hcn
                  · intro j v hj
                    by_cases hjl : j < len * i.size
                    · rw [List.getElem?_append_left (by rw [loadN_length hold]; exact hjl)] at hj
                      have hlenpos : 0 < cap := by
                        apply Nat.pos_of_ne_zero
                        intro h0
                        have : len = 0 := by omega
                        subst this
                        simp at hjl
                      obtain rfl := k5 hlenpos
                      unfold Heap.loadN at hold
                      rw [hrow] at hold
                      simp only at hold
                      split at hold
                      · rename_i hle
                        simp only [Option.some.injEq] at hold
                        rw [← hold, List.getElem?_take, if_pos hjl, List.getElem?_drop] at hj
                        obtain ⟨p1, cv, p2, p3⟩ := s.row b y cells true hy hrow _ v hj
                        refine ⟨p1, cv, ?_, p3⟩
                        rw [r3 _ (.inl (by omega)), show y.o + o + j = y.o + (o + j) by omega]
                        exact p2
                      · cases hold
                    · rw [List.getElem?_append_right (by rw [loadN_length hold]; omega), loadN_length hold] at hj
                      obtain ⟨u, hu', hr'⟩ := hws.get hj
                      refine ⟨hone v (List.mem_of_getElem? hj), u, ?_, hr'⟩
                      have := r2 _ _ hu'
                      rw [show y.o + o + len * i.size + (0 + (j - len * i.size)) = y.o + o + j by omega] at this
                      exact this
                · refine ⟨Mu.le_put _ s.none_len, fun b' x hx hno => ?_, fun b' k hk => ?_, by omega, fun B hB hno => ?_, r8, r9, r10⟩
                  · by_cases hb' : b' = H.length
                    · subst hb'
                      rw [Mu.put_same] at hx
                      obtain rfl := Option.some.inj hx
                      refine ⟨Nat.le_refl _, .inr ⟨b, y, _, hy, rfl, hrow, rfl, ?_⟩⟩
                      have hlt : b < H.length := (List.getElem?_eq_some_iff.1 hrow).1
                      rw [List.getElem?_append_left (by simp [hlt])]
                      exact set_get _ hrow
                    · rw [Mu.put_ne _ hb'] at hx
                      rw [hx] at hno; cases hno
                  · obtain ⟨k', hk', hle⟩ := stay_set hrow (k := .dead) (by simp [Blk.Le]) b' k hk
                    have hlt : b' < H.length := (List.getElem?_eq_some_iff.1 hk).1
                    exact ⟨k', by rw [List.getElem?_append_left (by simp [hlt])]; exact hk', hle⟩
                  · exact r6 B (fun e => hno b y _ hy hrow rfl e.symm)
            · cases h
        · cases h
      · cases h
  · cases h

theorem copy_sound (fit : Fits P T) {H H' : Heap} {w : World} (s : Sim μ H w) {t1 t2 elem ty : Nat} {i : TI} (hu : P.underlying t1 = some (.slice elem)) (hE : T elem = some i) {dst src v : V} {cd cs : Value} (hd : VR μ dst cd) (hs : VR μ src cs) (h : copyV i dst src H = some (v, H')) :
    ∃ cv w' μ', (Builtin.copy_ #[t1, t2] ty #[cd, cs]).run P w = .ok cv w' ∧ VR μ' v cv ∧ Sim μ' H' w' ∧ Tr μ H w μ' H' w' := by
  obtain ⟨q, z, hq, q1, q2, q3, q4, q5, q6⟩ := (fit _ _ hE).info
  unfold copyV at h
  split at h
  · rename_i b off len cap t sz b2 off2 len2 cap2 t2' sz2
    have hd0 := hd
    have hs0 := hs
    simp only [VR] at hd hs
    obtain ⟨a, c, ev, k1, k2, k3, k45⟩ := hd
    obtain ⟨a2, c2, ev2, m1, m2, m3, m45⟩ := hs
    have hlenOf : (Builtin.lenOf cs).run P w = .ok len2 w := by rw [ev2]; rfl
    dsimp only at h
    split at h
    · rename_i h0
      simp only [Option.some.injEq, Prod.mk.injEq] at h
      obtain ⟨rfl, rfl⟩ := h
      refine ⟨.int .i64 0, w, μ, ?_, VR.mk_int _ _, s, Tr.refl _ _ _⟩
      unfold Builtin.copy_
      rw [ev]
      simp only [List.getElem?_toArray, List.getElem?_cons_zero, List.getElem?_cons_succ, run_und hu, Sem.run_bind, Result.andThen_ok, hlenOf, Sem.run_pure, run_size hq, h0]
      have hfc : (Builtin.firstCells q.size 0 cs).run P w = .ok #[] w := by rw [ev2]; simp only [Builtin.firstCells, Nat.zero_mul]; rfl
      rw [hfc]
      simp [storeCells, goInt]
    · rename_i h0
      split at h
      · rename_i cells hl
        split at h
        · rename_i h' hst
          simp only [Option.some.injEq, Prod.mk.injEq] at h
          obtain ⟨rfl, rfl⟩ := h
          have hmin : 0 < len ∧ 0 < len2 := by
            constructor <;> (apply Nat.pos_of_ne_zero; intro e; subst e; simp at h0)
          obtain ⟨ws, f1, f2, f3⟩ := firstCells_sound (P := P) (n := Nat.min len2 len) (size := i.size) s hs0 (by omega) (.inl hl)
          rcases k45 with ⟨_, q2⟩ | ⟨y, o, hy, rfl, k4, k5⟩
          · omega
          obtain rfl := k5 (by omega)
          obtain ⟨w', r1, r2, r3⟩ := sim_storeN P s hy hst f2 f3
          refine ⟨.int .i64 (Nat.min len2 len : Nat), w', μ, ?_, VR.mk_int _ _, r2, r3⟩
          unfold Builtin.copy_
          rw [ev]
          simp only [List.getElem?_toArray, List.getElem?_cons_zero, List.getElem?_cons_succ, run_und hu, Sem.run_bind, Result.andThen_ok, hlenOf, Sem.run_pure, run_size hq, q1]
          rw [f1 w rfl]
          simp only [Result.andThen_ok, r1, Sem.run_bind, Sem.run_pure]
          rfl
        · cases h
      · cases h
  · cases h

end Go.Proofs.Ytjageapgbpdlhaa.VM
