/- THE SMALL MACHINE, part F: its operations on memory are the model's: all but append, copy. -/
import Derived.Test.YtjageapgbpdlhaaVmE
import Derived.Lib.ConvBytes
namespace Go.Proofs.Ytjageapgbpdlhaa.VM
open Go
set_option linter.unusedVariables false
set_option linter.unusedSimpArgs false

variable {P : Program} {T : Tab} {μ : Mu}

/-- what an operation hands on -/
def Nx (μ : Mu) (v : V) (nx : Next) : Prop := (∃ cv, nx = .value cv ∧ VR μ v cv) ∨ (nx = .skip ∧ v = V.undef)

def Goes (P : Program) (μ : Mu) (H : Heap) (w : World) (s : Sem Next) (v : V) (H' : Heap) : Prop :=
  ∃ nx w' μ', s.run P w = .ok nx w' ∧ Nx μ' v nx ∧ Sim μ' H' w' ∧ Tr μ H w μ' H' w'

theorem Goes.of_value {H H' : Heap} {w : World} {s : Sem Value} {v : V} (h : ∃ cv w' μ', s.run P w = .ok cv w' ∧ VR μ' v cv ∧ Sim μ' H' w' ∧ Tr μ H w μ' H' w') :
    Goes P μ H w (do pure (Next.value (← s))) v H' := by
  obtain ⟨cv, w', μ', h1, h2, h3, h4⟩ := h
  exact ⟨_, w', μ', run_value h1, .inl ⟨cv, rfl, h2⟩, h3, h4⟩

theorem zeros_length (z : List V) (n : Nat) : (zeros z n).length = n * z.length := by
  simp [zeros]

theorem zeros_succ (z : List V) (n : Nat) : zeros z (n + 1) = z ++ zeros z n := by simp [zeros, List.replicate_succ]

theorem zeros_get (z : List V) : ∀ (n i : Nat), i < n * z.length → (zeros z n)[i]? = z[i % z.length]?
  | 0, i, h => by simp at h
  | n + 1, i, h => by
    rw [zeros_succ]
    by_cases hi : i < z.length
    · rw [List.getElem?_append_left hi, Nat.mod_eq_of_lt hi]
    · rw [List.getElem?_append_right (by omega), zeros_get z n (i - z.length) (by rw [Nat.add_mul] at h; omega), ← Nat.mod_eq_sub_mod (by omega)]

theorem ones_zeros {z : List V} (h : ∀ c ∈ z, c.one = true) (n : Nat) : ∀ c ∈ zeros z n, c.one = true := fun c hc => by
  simp only [zeros, List.mem_flatten, List.mem_replicate] at hc
  obtain ⟨l, ⟨_, rfl⟩, hl⟩ := hc
  exact h c hl

theorem zeros_sound {z : List V} {zc : Array Value} (h : VRs μ z zc.toList) (n : Nat) : VRs μ (zeros z n) ((Array.range (n * zc.size)).map fun i => zc[i % zc.size]!).toList := by
  have hl : zc.size = z.length := by simpa using h.length
  refine VRs.of_get (by simp [zeros_length, hl]) fun i v hi => ?_
  have hlt : i < n * z.length := by
    rw [← zeros_length z n]; exact (List.getElem?_eq_some_iff.1 hi).1
  rw [zeros_get z n i hlt] at hi
  obtain ⟨u, hu, hr⟩ := h.get hi
  rw [← hl] at hu
  refine ⟨u, ?_, hr⟩
  have hp : 0 < zc.size := by
    apply Nat.pos_of_ne_zero
    intro e
    rw [hl] at e
    rw [e] at hlt
    simp at hlt
  have hm : i % zc.size < zc.size := Nat.mod_lt _ hp
  simp only [Array.getElem?_toList] at hu
  simp only [Array.toList_map, List.getElem?_map, Array.getElem?_toList]
  rw [Array.getElem?_range, if_pos (by rw [hl]; exact hlt)]
  simp only [Option.map_some]
  rw [Array.getElem!_eq_getD, Array.getD_eq_getD_getElem?, hu]
  rfl

/-- a new row of cells -/
theorem run_newRow (e : TypeId) (cs : Array Value) (w : World) : (newRow e cs).run P w = .ok ⟨w.heap.size, 0, none⟩ (w.alloc (.cells cs e)) := rfl

theorem new_sound {H : Heap} {w : World} (s : Sim μ H w) (e : TypeId) (cs : List V) (cvs : Array Value) (h : VRs μ cs cvs.toList) (h1 : ∀ c ∈ cs, c.one = true) :
    ∃ μ', μ' H.length = some ⟨w.heap.size, 0, cs.length⟩ ∧ Sim μ' (H ++ [.row cs true]) (w.alloc (.cells cvs e)) ∧ Tr μ H w μ' (H ++ [.row cs true]) (w.alloc (.cells cvs e)) := by
  have hl : cvs.size = cs.length := by simpa using h.length
  refine ⟨_, Mu.put_same _ _ _, sim_new s cs true cs.length cvs e (0, 0) (Nat.le_refl _) (by omega) (fun i v hi => ?_) (fun i _ => by simp)⟩
  obtain ⟨u, hu, hr⟩ := h.get hi
  exact ⟨h1 v (List.mem_of_getElem? hi), u, by simpa using hu, hr⟩

theorem isAgg_run {t : Nat} {i : TI} (f : i.fits P t) (w : World) : (isAgg t).run P w = .ok i.k.agg w := by
  have hk := f.kind
  cases hki : i.k <;> rw [hki] at hk <;> simp only [TK.fits] at hk
  case strct => obtain ⟨F, _, h, _⟩ := hk; simp [isAgg, run_und h, TK.agg]
  case ptr => obtain ⟨e, h⟩ := hk; simp [isAgg, run_und h, TK.agg]
  case map => obtain ⟨_, _, _, h, _⟩ := hk; simp [isAgg, run_und h, TK.agg]
  case other =>
    obtain ⟨d, h, h1, h2⟩ := hk
    cases d <;> first | (exact absurd rfl (h1 _)) | (exact absurd rfl (h2 _ _)) | simp [isAgg, run_und h, TK.agg]
  all_goals simp [isAgg, run_und hk, TK.agg]

theorem load_sound (fit : Fits P T) {H : Heap} {w : World} (s : Sim μ H w) {t : Nat} {i : TI} (hT : T t = some i) {b off : Nat} {x : Loc} (hx : μ b = some x) {v : V}
    (h : (if i.k.agg then (H.loadN b off i.size).map fun cs => (V.agg cs, H) else match H.loadN b off 1 with | some [v] => some (v, H) | _ => none) = some (v, H)) :
    ∃ cv, (loadVar t ⟨x.B, x.o + off, none⟩).run P w = .ok cv w ∧ VR μ v cv := by
  obtain ⟨q, z, hq, q1, _⟩ := (fit _ _ hT).info
  split at h
  · rename_i ha
    simp only [Option.map_eq_some_iff, Prod.mk.injEq, and_true] at h
    obtain ⟨cs, hcs, rfl⟩ := h
    obtain ⟨ws, k1, k2, k3, _⟩ := sim_loadCells P s hx hcs
    refine ⟨.agg ws, ?_, by simp only [VR]; exact ⟨ws, rfl, k3, k2⟩⟩
    simp [loadVar, isAgg_run (fit _ _ hT), ha, run_size hq, q1, k1 w rfl]
  · rename_i ha
    split at h
    · rename_i u hu
      simp only [Option.some.injEq, Prod.mk.injEq, and_true] at h
      subst h
      unfold Heap.loadN at hu
      split at hu
      · rename_i cs wr hb
        split at hu
        · rename_i hl
          simp only [Option.some.injEq] at hu
          have hlt : off < cs.length := by omega
          rw [List.drop_eq_getElem_cons hlt, List.take_succ_cons] at hu
          simp only [List.take_zero, List.cons.injEq, and_true] at hu
          obtain ⟨h1, cv, h2, h3⟩ := s.row b x cs wr hx hb off u (by rw [← hu]; simp [hlt])
          refine ⟨cv, ?_, h3⟩
          have hag : i.k.agg = false := by simpa using ha
          simp [loadVar, isAgg_run (fit _ _ hT), hag, h2]
        · cases hu
      · cases hu
    · cases h

theorem store_sound (fit : Fits P T) {H H' : Heap} {w : World} (s : Sim μ H w) {t : Nat} {i : TI} (hT : T t = some i) {b off : Nat} {x : Loc} (hx : μ b = some x) {v : V} {cv : Value} (hv : VR μ v cv) (ht : v.isTup = false)
    (hl : v.cells.length = i.size) (h : H.storeN b off v.cells = some H') :
    ∃ w', (storeVar t ⟨x.B, x.o + off, none⟩ cv).run P w = .ok () w' ∧ Sim μ H' w' ∧ Tr μ H w μ H' w' := by
  obtain ⟨q, z, hq, q1, _⟩ := (fit _ _ hT).info
  obtain ⟨hc, h1⟩ := VR.cells hv (fun vs e => by subst e; simp [V.isTup] at ht)
  obtain ⟨w', k1, k2, k3⟩ := sim_storeN P s hx h hc h1
  refine ⟨w', ?_, k2, k3⟩
  have hsz : cv.cells.size = i.size := by have := hc.length; simp only [Array.length_toList] at this; omega
  simp [storeVar, run_size hq, q1, hsz, k1]

theorem toBytes_sound : ∀ {cs : List V} {bs : List UInt8}, V.toBytes cs = some bs → ∀ {ws : List Value}, VRs μ cs ws → ∃ ns : List Int, ws = ns.map (Value.int .u8) ∧ bs = ns.map fun n => UInt8.ofNat n.toNat
  | [], _, h, ws, hr => by
    simp only [VRs] at hr
    subst hr
    simp only [V.toBytes, Option.some.injEq] at h
    subst h
    exact ⟨[], rfl, rfl⟩
  | c :: cs, _, h, ws, hr => by
    simp only [VRs] at hr
    obtain ⟨u, ws', rfl, hu, hr'⟩ := hr
    cases c with
    | int k n =>
      cases k <;> simp only [V.toBytes, reduceCtorEq] at h
      split at h
      · rename_i bs' hbs
        simp only [Option.some.injEq] at h
        subst h
        rw [hu.int]
        obtain ⟨ns, rfl, rfl⟩ := toBytes_sound hbs hr'
        exact ⟨n :: ns, rfl, rfl⟩
      · cases h
    | _ => simp [V.toBytes] at h

theorem foldl_push (ns : List Int) : ∀ acc : ByteArray, ns.foldl (fun r n => r.push (UInt8.ofNat n.toNat)) acc = ⟨acc.data ++ (ns.map fun n => UInt8.ofNat n.toNat).toArray⟩ := by
  induction ns with
  | nil => intro acc; simp
  | cons n ns ih => intro acc; simp only [List.foldl_cons]; rw [ih]; simp [ByteArray.push]

theorem bytesOf_sound (s : ByteArray) : VRs μ (V.bytesOf s) (s.data.toList.map fun b => Value.int .u8 b.toNat) := by
  refine VRs.of_get (by simp [V.bytesOf]) fun i v hi => ?_
  simp only [V.bytesOf, List.getElem?_map, Option.map_eq_some_iff] at hi
  obtain ⟨b, hb, rfl⟩ := hi
  exact ⟨.int .u8 b.toNat, by simp only [List.getElem?_map, hb, Option.map_some], VR.mk_int _ _⟩
theorem bytesOf_ones (s : ByteArray) : ∀ c ∈ V.bytesOf s, c.one = true := fun c hc => by
  simp only [V.bytesOf, List.mem_map] at hc
  obtain ⟨b, _, rfl⟩ := hc
  rfl
theorem bytesOf_length (s : ByteArray) : (V.bytesOf s).length = s.size := by simp [V.bytesOf]

theorem Sim.drew {H : Heap} {w : World} (s : Sim μ H w) : Sim μ H w.drew := s.of_heap rfl
theorem Tr.drew (H : Heap) (w : World) : Tr μ H w μ H w.drew := Tr.of_heap rfl rfl rfl rfl

/-- a new row behind whose known cells others lie -/
theorem new_spare {H : Heap} {w : World} (s : Sim μ H w) (e : TypeId) (fr : Nat × Nat) (cs : List V) (cvs rest : Array Value) (h : VRs μ cs cvs.toList) (h1 : ∀ c ∈ cs, c.one = true) (hf : fr = (0, 0) ∨ (cvs ++ rest).size ≤ fr.1) :
    ∃ μ', μ' H.length = some ⟨w.heap.size, 0, (cvs ++ rest).size⟩ ∧ Sim μ' (H ++ [.row cs true]) (w.alloc (.cells (cvs ++ rest) e fr)) ∧ Tr μ H w μ' (H ++ [.row cs true]) (w.alloc (.cells (cvs ++ rest) e fr)) := by
  have hl : cvs.size = cs.length := by simpa using h.length
  refine ⟨_, Mu.put_same _ _ _, sim_new s cs true (cvs ++ rest).size (cvs ++ rest) e fr (by simp; omega) (Nat.le_refl _) (fun i v hi => ?_) (fun i hi => ?_)⟩
  · obtain ⟨u, hu, hr⟩ := h.get hi
    have hlt : i < cvs.size := by rw [hl]; exact (List.getElem?_eq_some_iff.1 hi).1
    exact ⟨h1 v (List.mem_of_getElem? hi), u, by rw [Array.getElem?_append_left hlt]; simpa using hu, hr⟩
  · rcases hf with rfl | hf
    · simp
    · have : ¬ fr.1 ≤ i := by omega
      simp [this]

theorem modify_push {α : Type} (a : Array α) (x : α) (f : α → α) : (a.push x).modify a.size f = a.push (f x) := by
  apply Array.ext
  · simp
  · intro i h1 h2
    rw [Array.getElem_modify]
    by_cases hi : a.size = i
    · subst hi; simp
    · rw [if_neg hi]
      have : i < a.size := by simp at h2; omega
      rw [Array.getElem_push_lt this, Array.getElem_push_lt this]

theorem bytesWorld_eq (w : World) (e : TypeId) (s : ByteArray) : Lib.bytesWorld w e s = w.drew.alloc (.cells (Lib.bytesCells w e s) e ((Lib.bytesCells w e s).size, (Lib.bytesCells w e s).size + 1)) := by
  unfold Lib.bytesWorld World.freeze World.alloc World.drew
  rw [if_neg (by decide)]
  simp only [modify_push]
  simp

theorem s2b_sound {H : Heap} {w : World} (s : Sim μ H w) (e : TypeId) (b : ByteArray) :
    ∃ μ', VR μ' (.slc H.length 0 b.size b.size false 1) (.slice (some ⟨w.heap.size, 0, none⟩) b.size (grownCap w b.size 0 e)) ∧ Sim μ' (H ++ [.row (V.bytesOf b) true]) (Lib.bytesWorld w e b) ∧ Tr μ H w μ' (H ++ [.row (V.bytesOf b) true]) (Lib.bytesWorld w e b) := by
  have hge := grownCap_ge w b.size 0 e
  have hsz : (Lib.bytesCells w e b).size = grownCap w b.size 0 e := by
    have : b.data.size = b.size := rfl
    simp [Lib.bytesCells, this]; omega
  obtain ⟨μ', h1, h2, h3⟩ := new_spare s.drew e ((Lib.bytesCells w e b).size, (Lib.bytesCells w e b).size + 1) (V.bytesOf b) (b.data.map fun b => Value.int .u8 b.toNat) (Array.replicate (grownCap w b.size 0 e - b.size) (.int .u8 0))
    (by simpa using bytesOf_sound b) (bytesOf_ones b) (.inr (Nat.le_refl _))
  rw [bytesWorld_eq]
  refine ⟨μ', ?_, h2, (Tr.drew H w).trans h3 (fun b x h => (s.lt b x h).1)⟩
  simp only [VR]
  refine ⟨_, grownCap w b.size 0 e, rfl, Nat.le_refl _, hge, nofun, .inr ⟨_, 0, h1, rfl, ?_, fun _ => rfl⟩⟩
  have : ((b.data.map fun b => Value.int .u8 b.toNat) ++ Array.replicate (grownCap w b.size 0 e - b.size) (Value.int .u8 0)).size = grownCap w b.size 0 e := hsz
  rw [this]; simp

/-- cells of one block of the model's are written, wherever -/
theorem run_storeCells_ext (P : Program) (B : Nat) : ∀ (ws : List Value) (o j : Nat) (w : World), (∀ v ∈ ws, v.oneCell' = true) → (∀ i, j ≤ i → i < j + ws.length → (∃ u, w.cell? ⟨B, o + i, none⟩ = some u) ∧ w.frozen? ⟨B, o + i, none⟩ = false) →
    ∃ w', (storeCells ⟨B, o, none⟩ ws j).run P w = .ok () w' ∧ (∀ i v, ws[i]? = some v → w'.cell? ⟨B, o + (j + i), none⟩ = some v) ∧
      (∀ i, i < o + j ∨ o + j + ws.length ≤ i → w'.cell? ⟨B, i, none⟩ = w.cell? ⟨B, i, none⟩) ∧ (∀ a, w'.frozen? a = w.frozen? a) ∧ (∀ a, (∃ u, w.cell? a = some u) → ∃ u, w'.cell? a = some u) ∧
      (∀ B', B' ≠ B → w'.heap[B']? = w.heap[B']?) ∧ w'.heap.size = w.heap.size ∧ w'.os = w.os ∧ w'.tape = w.tape ∧ w'.output = w.output
  | [], o, j, w, _, _ => ⟨w, rfl, fun i v h => by simp at h, fun _ _ => rfl, fun _ => rfl, fun _ h => h, fun _ _ => rfl, rfl, rfl, rfl, rfl⟩
  | v :: ws, o, j, w, h1, h => by
    obtain ⟨⟨u, hu⟩, hf⟩ := h j (Nat.le_refl _) (by simp)
    have hsame := World.cell?_setCell_same w _ v hu
    obtain ⟨w', k1, k2, k3, k4, k5, k6, k7, k8, k9, k10⟩ := run_storeCells_ext P B ws o (j + 1) (w.setCell ⟨B, o + j, none⟩ v) (fun v hv => h1 v (by simp [hv])) (fun i hi hi2 => by
      obtain ⟨⟨u', hu'⟩, hf'⟩ := h i (by omega) (by simp; omega)
      refine ⟨⟨u', ?_⟩, by rw [World.frozen?_setCell]; exact hf'⟩
      rw [World.cell?_setCell_other _ _ _ _ (fun e => by injection e with _ e2 _; omega)]
      exact hu')
    refine ⟨w', ?_, ?_, ?_, ?_, ?_, ?_, ?_, ?_, ?_, ?_⟩
    · simp only [storeCells, Sem.run_bind, add_at]
      rw [run_storeOne P (h1 v (by simp)) hu hf]
      exact k1
    · intro i x hi
      cases i with
      | zero =>
        simp at hi; subst hi
        rw [k3 _ (.inl (by omega))]
        exact hsame
      | succ i =>
        simp at hi
        have := k2 i x hi
        rw [show j + (i + 1) = j + 1 + i by omega]
        exact this
    · intro i hi
      simp only [List.length_cons] at hi
      rw [k3 i (by omega), World.cell?_setCell_other _ _ _ _ (fun e => by injection e with _ e2 _; omega)]
    · intro a; rw [k4, World.frozen?_setCell]
    · intro a ⟨q, hq⟩
      refine k5 a ?_
      by_cases ha : (⟨B, o + j, none⟩ : Addr) = a
      · subst ha; exact ⟨v, hsame⟩
      · exact ⟨q, by rw [World.cell?_setCell_other _ _ _ _ ha]; exact hq⟩
    · intro B' hB'
      rw [k6 B' hB']
      simp only [World.setCell, Array.getElem?_modify]
      rw [if_neg (fun e => hB' e.symm)]
    · rw [k7]; simp
    · rw [k8]; rfl
    · rw [k9]; rfl
    · rw [k10]; rfl

/-- a block of the model's where nothing lives any more was written; a new block of the small machine's lies there -/
theorem sim_alias {K : Heap} {w w' : World} (s : Sim μ K w) {y : Loc} {o : Nat} {cs : List V} (hB : y.B < w.heap.size)
    (hno : ∀ b x k, μ b = some x → K[b]? = some k → k ≠ .dead → x.B ≠ y.B)
    (hheap : ∀ B', B' ≠ y.B → w'.heap[B']? = w.heap[B']?) (hsize : w'.heap.size = w.heap.size)
    (ho : o ≤ y.n) (hl : cs.length ≤ y.n - o) (hext : ∀ i, i < y.n → ∃ u, w'.cell? ⟨y.B, y.o + i, none⟩ = some u) (hfree : ∀ i, i < y.n → w'.frozen? ⟨y.B, y.o + i, none⟩ = false)
    (hcs : ∀ (i : Nat) v, cs[i]? = some v → v.one = true ∧ ∃ cv, w'.cell? ⟨y.B, y.o + o + i, none⟩ = some cv ∧ VR μ v cv) :
    Sim (μ.put K.length ⟨y.B, y.o + o, y.n - o⟩) (K ++ [.row cs true]) w' := by
  have hle : Mu.Le μ (μ.put K.length ⟨y.B, y.o + o, y.n - o⟩) := Mu.le_put _ s.none_len
  have cell : ∀ B i, B ≠ y.B → w'.cell? ⟨B, i, none⟩ = w.cell? ⟨B, i, none⟩ := fun B i h => by simp only [World.cell?, hheap B h]
  have frz : ∀ B i, B ≠ y.B → w'.frozen? ⟨B, i, none⟩ = w.frozen? ⟨B, i, none⟩ := fun B i h => by simp only [World.frozen?, hheap B h]
  have split : ∀ b x, μ.put K.length ⟨y.B, y.o + o, y.n - o⟩ b = some x → (b = K.length ∧ x = ⟨y.B, y.o + o, y.n - o⟩) ∨ (b ≠ K.length ∧ μ b = some x) := fun b x hx => by
    by_cases hb : b = K.length
    · subst hb; rw [Mu.put_same] at hx; exact .inl ⟨rfl, (Option.some.inj hx).symm⟩
    · rw [Mu.put_ne _ hb] at hx; exact .inr ⟨hb, hx⟩
  have oldk : ∀ b k, b ≠ K.length → (K ++ [Blk.row cs true])[b]? = some k → K[b]? = some k := fun b k hb hk => by
    rcases get_snoc hk with ⟨h1, _⟩ | ⟨_, h2⟩
    · exact absurd h1 hb
    · exact h2
  have newk : ∀ k, (K ++ [Blk.row cs true])[K.length]? = some k → k = .row cs true := fun k hk => by
    rcases get_snoc hk with ⟨_, h2⟩ | ⟨h1, _⟩
    · exact h2
    · exact absurd h1 (Nat.lt_irrefl _)
  refine ⟨?_, ?_, ?_, ?_, ?_, ?_⟩
  · intro b x hx
    rcases split b x hx with ⟨rfl, rfl⟩ | ⟨_, h⟩
    · simp; omega
    · have := s.lt b x h; simp; omega
  · intro b x cs' wr' hx hb i v hi
    rcases split b x hx with ⟨rfl, rfl⟩ | ⟨hne, h⟩
    · have := newk _ hb
      injection this with e1 e2
      subst e1
      obtain ⟨h1, cv, h2, h3⟩ := hcs i v hi
      exact ⟨h1, cv, h2, h3.mono hle⟩
    · obtain ⟨h1, cv, h2, h3⟩ := s.row b x cs' wr' h (oldk _ _ hne hb) i v hi
      exact ⟨h1, cv, by rw [cell _ _ (hno b x _ h (oldk _ _ hne hb) (by simp))]; exact h2, h3.mono hle⟩
  · intro b x cs' wr' hx hb
    rcases split b x hx with ⟨rfl, rfl⟩ | ⟨hne, h⟩
    · have := newk _ hb
      injection this with e1 e2
      subst e1
      refine ⟨hl, fun i hi => ?_⟩
      rw [show y.o + o + i = y.o + (o + i) by omega]
      exact hext _ (by simp at hi; omega)
    · obtain ⟨h2, h3⟩ := s.ext b x cs' wr' h (oldk _ _ hne hb)
      exact ⟨h2, fun i hi => by rw [cell _ _ (hno b x _ h (oldk _ _ hne hb) (by simp))]; exact h3 i hi⟩
  · intro b x cs' hx hb i hi
    rcases split b x hx with ⟨rfl, rfl⟩ | ⟨hne, h⟩
    · rw [show y.o + o + i = y.o + (o + i) by omega]
      exact hfree _ (by simp at hi; omega)
    · rw [frz _ _ (hno b x _ h (oldk _ _ hne hb) (by simp))]; exact s.free b x cs' h (oldk _ _ hne hb) i hi
  · intro b x k hx hb ho' b' x' k' hne' hx' hb' hd
    rcases split b x hx with ⟨rfl, rfl⟩ | ⟨hne, h⟩ <;> rcases split b' x' hx' with ⟨rfl, rfl⟩ | ⟨hne2, h'⟩
    · exact absurd rfl hne'
    · exact hno b' x' k' h' (oldk _ _ hne2 hb') hd
    · exact fun e => hno b x k h (oldk _ _ hne hb) (fun e => by subst e; simp [Blk.own] at ho') e.symm
    · exact s.sole b x k h (oldk _ _ hne hb) ho' b' x' k' hne' h' (oldk _ _ hne2 hb') hd
  · intro b x es hx hb
    rcases split b x hx with ⟨rfl, rfl⟩ | ⟨hne, h⟩
    · have := newk _ hb; cases this
    · obtain ⟨m, cl, h1, h2⟩ := s.mp b x es h (oldk _ _ hne hb)
      exact ⟨m, cl, by rw [hheap _ (hno b x _ h (oldk _ _ hne hb) (by simp))]; exact h1, h2⟩

end Go.Proofs.Ytjageapgbpdlhaa.VM
