/- THE SMALL MACHINE, part I: maps; all operations on memory are the model's. -/
import Derived.Test.YtjageapgbpdlhaaVmH
namespace Go.Proofs.Ytjageapgbpdlhaa.VM
open Go
set_option linter.unusedVariables false
set_option linter.unusedSimpArgs false

variable {P : Program} {T : Tab} {μ : Mu}

theorem sim_newmap {H : Heap} {w : World} (s : Sim μ H w) : Sim (μ.put H.length ⟨w.heap.size, 0, 0⟩) (H ++ [.mp []]) (w.alloc (.map #[] 0)) ∧ Tr μ H w (μ.put H.length ⟨w.heap.size, 0, 0⟩) (H ++ [.mp []]) (w.alloc (.map #[] 0)) := by
  have hle : Mu.Le μ (μ.put H.length ⟨w.heap.size, 0, 0⟩) := Mu.le_put _ s.none_len
  have old : ∀ b x, μ b = some x → ∀ i, (w.alloc (.map #[] 0)).cell? ⟨x.B, x.o + i, none⟩ = w.cell? ⟨x.B, x.o + i, none⟩ := fun b x hx i =>
    World.cell?_alloc_lt w _ _ (s.lt b x hx).2
  have oldf : ∀ b x, μ b = some x → ∀ i, (w.alloc (.map #[] 0)).frozen? ⟨x.B, x.o + i, none⟩ = w.frozen? ⟨x.B, x.o + i, none⟩ := fun b x hx i =>
    World.frozen?_alloc_old w _ _ (Nat.ne_of_lt (s.lt b x hx).2)
  have split : ∀ b x, μ.put H.length ⟨w.heap.size, 0, 0⟩ b = some x → (b = H.length ∧ x = ⟨w.heap.size, 0, 0⟩) ∨ (b ≠ H.length ∧ μ b = some x) := fun b x hx => by
    by_cases hb : b = H.length
    · subst hb; rw [Mu.put_same] at hx; exact .inl ⟨rfl, (Option.some.inj hx).symm⟩
    · rw [Mu.put_ne _ hb] at hx; exact .inr ⟨hb, hx⟩
  have oldk : ∀ b k, b ≠ H.length → (H ++ [Blk.mp []])[b]? = some k → H[b]? = some k := fun b k hb hk => by
    rcases get_snoc hk with ⟨h1, _⟩ | ⟨_, h2⟩
    · exact absurd h1 hb
    · exact h2
  have newk : ∀ k, (H ++ [Blk.mp []])[H.length]? = some k → k = .mp [] := fun k hk => by
    rcases get_snoc hk with ⟨_, h2⟩ | ⟨h1, _⟩
    · exact h2
    · exact absurd h1 (Nat.lt_irrefl _)
  refine ⟨⟨?_, ?_, ?_, ?_, ?_, ?_⟩, ?_⟩
  · intro b x hx
    rcases split b x hx with ⟨rfl, rfl⟩ | ⟨_, h⟩
    · simp
    · have := s.lt b x h; simp; omega
  · intro b x cs' wr' hx hb i v hi
    rcases split b x hx with ⟨rfl, rfl⟩ | ⟨hne, h⟩
    · have := newk _ hb; cases this
    · obtain ⟨h1, cv, h2, h3⟩ := s.row b x cs' wr' h (oldk _ _ hne hb) i v hi
      exact ⟨h1, cv, by rw [old b x h]; exact h2, h3.mono hle⟩
  · intro b x cs' wr' hx hb
    rcases split b x hx with ⟨rfl, rfl⟩ | ⟨hne, h⟩
    · have := newk _ hb; cases this
    · obtain ⟨h2, h3⟩ := s.ext b x cs' wr' h (oldk _ _ hne hb)
      exact ⟨h2, fun i hi => by rw [old b x h]; exact h3 i hi⟩
  · intro b x cs' hx hb i hi
    rcases split b x hx with ⟨rfl, rfl⟩ | ⟨hne, h⟩
    · have := newk _ hb; cases this
    · rw [oldf b x h]; exact s.free b x cs' h (oldk _ _ hne hb) i hi
  · intro b x k hx hb ho b' x' k' hne' hx' hb' hd
    rcases split b x hx with ⟨rfl, rfl⟩ | ⟨hne, h⟩ <;> rcases split b' x' hx' with ⟨rfl, rfl⟩ | ⟨hne2, h'⟩
    · exact absurd rfl hne'
    · exact Nat.ne_of_lt (s.lt b' x' h').2
    · exact fun e => Nat.ne_of_lt (s.lt b x h).2 e.symm
    · exact s.sole b x k h (oldk _ _ hne hb) ho b' x' k' hne' h' (oldk _ _ hne2 hb') hd
  · intro b x es hx hb
    rcases split b x hx with ⟨rfl, rfl⟩ | ⟨hne, h⟩
    · have := newk _ hb
      injection this with e1
      subst e1
      exact ⟨#[], 0, by simp [World.alloc, -World.alloc_eq], rfl⟩
    · obtain ⟨m, cl, h1, h2⟩ := s.mp b x es h (oldk _ _ hne hb)
      refine ⟨m, cl, ?_, h2⟩
      simp only [World.alloc]
      rw [Array.getElem?_push, if_neg (Nat.ne_of_lt (s.lt b x h).2)]
      exact h1
  · refine ⟨hle, fun b x hx hno => ?_, stay_snoc H _, by simp, fun B hB _ => ?_, rfl, rfl, rfl⟩
    · rcases split b x hx with ⟨rfl, rfl⟩ | ⟨_, h⟩
      · exact ⟨Nat.le_refl _, .inl (Nat.le_refl _)⟩
      · rw [h] at hno; cases hno
    · simp only [World.alloc]
      rw [Array.getElem?_push, if_neg (Nat.ne_of_lt hB)]

theorem sim_mapset {H : Heap} {w : World} (s : Sim μ H w) {b : Nat} {x : Loc} {es es' : List (Int × Int)} (hx : μ b = some x) (hb : H[b]? = some (.mp es)) (m : Array MapEntry) (cl : Nat)
    (hm : m.toList.map (fun e => (e.key, e.val)) = es'.map fun p => (Value.int .i64 p.1, Value.int .i64 p.2)) :
    Sim μ (H.set b (.mp es')) { w with heap := w.heap.setIfInBounds x.B (.map m cl) } ∧ Tr μ H w μ (H.set b (.mp es')) { w with heap := w.heap.setIfInBounds x.B (.map m cl) } := by
  have hh : ∀ B, B ≠ x.B → (w.heap.setIfInBounds x.B (.map m cl))[B]? = w.heap[B]? := fun B h => Array.getElem?_setIfInBounds_ne (fun e => h e.symm)
  have cell : ∀ B i, B ≠ x.B → ({ w with heap := w.heap.setIfInBounds x.B (.map m cl) } : World).cell? ⟨B, i, none⟩ = w.cell? ⟨B, i, none⟩ := fun B i h => by simp only [World.cell?, hh B h]
  have frz : ∀ B i, B ≠ x.B → ({ w with heap := w.heap.setIfInBounds x.B (.map m cl) } : World).frozen? ⟨B, i, none⟩ = w.frozen? ⟨B, i, none⟩ := fun B i h => by simp only [World.frozen?, hh B h]
  have far : ∀ b' x' k, b' ≠ b → μ b' = some x' → H[b']? = some k → k ≠ .dead → x'.B ≠ x.B := fun b' x' k hne hx' hk hd => s.sole b x _ hx hb rfl b' x' k hne hx' hk hd
  refine ⟨⟨?_, ?_, ?_, ?_, ?_, ?_⟩, ⟨Mu.Le.refl _, fun b x h h' => by simp [h] at h', stay_set hb (by simp [Blk.Le]), by simp, fun B hB hno => ?_, rfl, rfl, rfl⟩⟩
  · intro b' x' hx'; have := s.lt b' x' hx'; simpa using this
  · intro b' x' cs' wr' hx' hb' j v' hj
    rcases get_set hb' with ⟨_, hk⟩ | ⟨hne, hk⟩
    · cases hk
    · obtain ⟨q1, q2, q3, q4⟩ := s.row b' x' cs' wr' hx' hk j v' hj
      exact ⟨q1, q2, by rw [cell _ _ (far b' x' _ hne hx' hk (by simp))]; exact q3, q4⟩
  · intro b' x' cs' wr' hx' hb'
    rcases get_set hb' with ⟨_, hk⟩ | ⟨hne, hk⟩
    · cases hk
    · obtain ⟨q2, q3⟩ := s.ext b' x' cs' wr' hx' hk
      exact ⟨q2, fun i hi => by rw [cell _ _ (far b' x' _ hne hx' hk (by simp))]; exact q3 i hi⟩
  · intro b' x' cs' hx' hb' j hj
    rcases get_set hb' with ⟨_, hk⟩ | ⟨hne, hk⟩
    · cases hk
    · rw [frz _ _ (far b' x' _ hne hx' hk (by simp))]; exact s.free b' x' cs' hx' hk j hj
  · intro b1 x1 k1 hx1 hb1 ho b2 x2 k2 hne hx2 hb2 hd
    rcases get_set hb1 with ⟨rfl, hk⟩ | ⟨hne1, hk⟩ <;> rcases get_set hb2 with ⟨rfl, hk'⟩ | ⟨hne2, hk'⟩
    · exact absurd rfl hne
    · exact s.sole b1 x1 _ hx1 hb rfl b2 x2 k2 hne hx2 hk' hd
    · exact s.sole b1 x1 k1 hx1 hk ho b2 x2 _ hne hx2 hb (by simp)
    · exact s.sole b1 x1 k1 hx1 hk ho b2 x2 k2 hne hx2 hk' hd
  · intro b' x' es2 hx' hb'
    rcases get_set hb' with ⟨rfl, hk⟩ | ⟨hne, hk⟩
    · injection hk with e1
      subst e1
      obtain rfl : x = x' := Option.some.inj (hx.symm.trans hx')
      exact ⟨m, cl, by simp [(s.lt _ x hx).2], hm⟩
    · obtain ⟨m', cl', q1, q2⟩ := s.mp b' x' es2 hx' hk
      exact ⟨m', cl', by rw [hh _ (far b' x' _ hne hx' hk (by simp))]; exact q1, q2⟩
  · exact hh B (fun e => hno b x _ hx hb rfl e.symm)

theorem checkKey_int {t : Nat} {k : IntKind} (h : P.underlying t = some (.int k)) (e : Bool) (d : Nat) (v : Value) (w : World) : (Instr.checkKey e (d + 1) t v).run P w = .ok () w := by
  simp only [Instr.checkKey, Sem.run_bind, run_und h, Result.andThen_ok]
  cases v <;> rfl

theorem findNow_sound (k : Int) : ∀ (es : List (Int × Int)) (m : List MapEntry) (i : Nat), m.map (fun e => (e.key, e.val)) = es.map (fun p => (Value.int .i64 p.1, Value.int .i64 p.2)) →
    (mapGet es k = none ∧ Instr.findNow (.int .i64) (.int .i64 k) m i = some none) ∨
    (∃ b j e, mapGet es k = some b ∧ Instr.findNow (.int .i64) (.int .i64 k) m i = some (some (i + j, .int .i64 b)) ∧ m[j]? = some e ∧ e.key = .int .i64 k ∧ ∀ v, mapPut es k v = es.set j (k, v))
  | [], m, i, h => by
    have : m = [] := by simpa using h
    subst this
    exact .inl ⟨rfl, rfl⟩
  | (a, b) :: es, m, i, h => by
    cases m with
    | nil => simp at h
    | cons e m =>
      simp only [List.map_cons, List.cons.injEq, Prod.mk.injEq] at h
      obtain ⟨⟨hk, hv⟩, hr⟩ := h
      by_cases hak : a = k
      · subst hak
        refine .inr ⟨b, 0, e, by simp [mapGet], ?_, rfl, hk, fun v => by simp [mapPut]⟩
        simp [Instr.findNow, hk, hv, Instr.sameNow]
      · have hne : (k == a) = false := by simp; exact fun e => hak e.symm
        rcases findNow_sound k es m (i + 1) hr with ⟨h1, h2⟩ | ⟨b', j, e', h1, h2, h3, h4, h5⟩
        · exact .inl ⟨by simp [mapGet, hak, h1], by simp [Instr.findNow, hk, Instr.sameNow, hne, h2]⟩
        · refine .inr ⟨b', j + 1, e', by simp [mapGet, hak, h1], ?_, by simpa using h3, h4, fun v => by simp [mapPut, hak, h5]⟩
          simp only [Instr.findNow, hk, Instr.sameNow, if_true, hne, h2]
          rw [show i + 1 + j = i + (j + 1) by omega]

theorem mapPut_none {k v : Int} : ∀ {es : List (Int × Int)}, mapGet es k = none → mapPut es k v = es ++ [(k, v)]
  | [], _ => rfl
  | (a, b) :: es, h => by
    simp only [mapGet] at h
    split at h
    · cases h
    · rename_i hne
      simp only [mapPut, hne, if_false, List.cons_append]
      rw [mapPut_none h]

theorem findKey_run {t : Nat} (h : P.underlying t = some (.int .i64)) {k : Value} {es : List MapEntry} {r : Option (Nat × Value)} (hf : Instr.findNow (.int .i64) k es 0 = some r) (w : World) : (Instr.findKey t k es).run P w = .ok r w := by
  simp only [Instr.findKey, Sem.run_bind, run_und h, Result.andThen_ok, hf, Sem.run_pure]

theorem run_getMap {w : World} {r : Nat} {m : Array MapEntry} {cl : Nat} (h : w.heap[r]? = some (.map m cl)) : (getObj r).run P w = .ok (.map m cl) w := by
  simp only [getObj, Sem.run, h]
theorem run_setMap {w : World} {r : Nat} {m : Array MapEntry} {cl : Nat} (h : w.heap[r]? = some (.map m cl)) (o : Obj) : (setObj r o).run P w = .ok () { w with heap := w.heap.setIfInBounds r o } := by
  simp only [setObj, Sem.run, h]

theorem lookup_sound {H : Heap} {w : World} (s : Sim μ H w) {t : Nat} (hk : TK.fits P t .map) {b : Nat} {cx : Value} {k : Int} {es : List (Int × Int)} (hx : VR μ (.map b) cx) (hb : H[b]? = some (.mp es)) :
    (Instr.lookup t cx (.int .i64 k) false).run P w = .ok (.int .i64 ((mapGet es k).getD 0)) w := by
  obtain ⟨kt, et, q, h1, h2, h3, h4⟩ := hk
  simp only [VR] at hx
  obtain ⟨x, hx, rfl⟩ := hx
  obtain ⟨m, cl, m1, m2⟩ := s.mp b x es hx hb
  unfold Instr.lookup
  simp only [Sem.run_bind, run_und h1, Result.andThen_ok, run_getMap m1, Sem.run_pure, checkKey_int h2 _ 9999]
  rcases findNow_sound k es m.toList 0 m2 with ⟨g1, g2⟩ | ⟨b', j, e', g1, g2, _⟩
  · rw [findKey_run h2 g2, g1]
    simp [run_zero h3 h4]
  · rw [findKey_run h2 g2, g1]
    simp

theorem update_sound {H : Heap} {w : World} (s : Sim μ H w) {t : Nat} (hk : TK.fits P t .map) {b : Nat} {cx : Value} {k v : Int} {es : List (Int × Int)} (hx : VR μ (.map b) cx) (hb : H[b]? = some (.mp es)) :
    ∃ w', (Instr.mapUpdate t cx (.int .i64 k) (.int .i64 v)).run P w = .ok () w' ∧ Sim μ (H.set b (.mp (mapPut es k v))) w' ∧ Tr μ H w μ (H.set b (.mp (mapPut es k v))) w' := by
  obtain ⟨kt, et, q, h1, h2, h3, h4⟩ := hk
  simp only [VR] at hx
  obtain ⟨x, hx, rfl⟩ := hx
  obtain ⟨m, cl, m1, m2⟩ := s.mp b x es hx hb
  unfold Instr.mapUpdate
  simp only [Sem.run_bind, run_und h1, Result.andThen_ok, run_getMap m1, Sem.run_pure, checkKey_int h2 _ 9999]
  rcases findNow_sound k es m.toList 0 m2 with ⟨g1, g2⟩ | ⟨b', j, e', g1, g2, g3, g4, g5⟩
  · rw [findKey_run h2 g2]
    simp only [Result.andThen_ok, run_setMap m1]
    refine ⟨_, rfl, sim_mapset s hx hb _ _ ?_⟩
    rw [mapPut_none g1]
    simp [m2]
  · rw [findKey_run h2 g2]
    simp only [Nat.zero_add, Array.getElem?_toList] at g3 ⊢
    simp only [Result.andThen_ok, g3, Option.map_some, Option.getD_some, g4, Instr.keyThatStays, Instr.sameBits, beq_self_eq_true, Bool.and_self, if_true, Sem.run_bind, Sem.run_pure, run_setMap m1]
    refine ⟨_, rfl, sim_mapset s hx hb _ _ ?_⟩
    rw [g5]
    apply List.ext_getElem?
    intro i
    have hi := congrArg (fun l => l[i]?) m2
    simp only [List.getElem?_map, Array.getElem?_toList] at hi
    simp only [List.getElem?_map, Array.getElem?_toList, Array.getElem?_modify, List.getElem?_set]
    by_cases hij : j = i
    · subst hij
      simp only [if_true, g3, Option.map_some]
      rw [g3] at hi
      have : j < es.length := by
        rcases Nat.lt_or_ge j es.length with h | h
        · exact h
        · rw [List.getElem?_eq_none h] at hi; simp at hi
      simp [this]
    · simp only [hij, if_false]
      exact hi

/-- an operation on memory -/
theorem mem_sound (fit : Fits P T) {H H' : Heap} {w : World} (s : Sim μ H w) {ρ : Operand → Option V} {ρc : Operand → Value} (hρ : ∀ x v, ρ x = some v → VR μ v (ρc x)) {o : Oper} {v : V} (h : memOp T ρ H o.op = some (v, H')) :
    Goes P μ H w (execOp ρc o) v H' := by
  cases ho : o.op <;> rw [ho] at h <;> simp only [memOp, reduceCtorEq] at h
  case alloc t =>
    split at h
    · rename_i i hT
      simp only [Option.some.injEq, Prod.mk.injEq] at h
      obtain ⟨rfl, rfl⟩ := h
      obtain ⟨q, z, hq, q1, q2, q3, q4, q5, q6⟩ := (fit _ _ hT).info
      obtain ⟨μ', h1, h2, h3⟩ := new_sound s t i.zero z.cells (q4 μ) q5
      simp only [execOp, ho]
      refine Goes.of_value ⟨.pointer (some ⟨w.heap.size, 0, none⟩), _, μ', ?_, by simp only [VR]; exact ⟨_, h1, rfl⟩, h2, h3⟩
      simp [Instr.alloc, run_zero hq q3, newVar, run_newRow]
    · cases h
  case box t x =>
    split at h
    · rename_i i u hT hx
      have hu := hρ _ _ hx
      have key : u.isTup = false → (v, H') = (.ptr H.length 0, H ++ [.row u.cells true]) → Goes P μ H w (execOp ρc o) v H' := fun ht e => by
        simp only [Prod.mk.injEq] at e
        obtain ⟨rfl, rfl⟩ := e
        obtain ⟨hc, h1⟩ := VR.cells hu (fun vs e => by subst e; simp [V.isTup] at ht)
        obtain ⟨μ', k1, k2, k3⟩ := new_sound s t u.cells (ρc x).cells hc h1
        simp only [execOp, ho]
        refine Goes.of_value ⟨.pointer (some ⟨w.heap.size, 0, none⟩), _, μ', ?_, by simp only [VR]; exact ⟨_, k1, rfl⟩, k2, k3⟩
        simp [Instr.box, newVar, run_newRow]
      split at h
      · cases h
      · rename_i hnt
        simp only [Option.some.injEq] at h
        exact key (by cases u <;> first | rfl | exact absurd rfl (hnt _)) h.symm
    · cases h
  case buildSlice t len parts =>
    split at h
    · rename_i e _ _ _ _ hT
      split at h
      · rename_i i ps hE hps
        split at h
        · rename_i hsz
          split at h
          · rename_i cs hcs
            simp only [Option.some.injEq, Prod.mk.injEq] at h
            obtain ⟨rfl, rfl⟩ := h
            obtain ⟨q, z, hq, q1, q2, q3, q4, q5, q6⟩ := (fit _ _ hE).info
            have hu : P.underlying t = some (.slice e) := (fit _ _ hT).kind
            have hzl : z.cells.size = i.size := by have := (q4 μ).length; simp only [Array.length_toList] at this; omega
            have hz := zeros_sound (q4 μ) len
            have hparts := evParts_sound hρ _ hps
            obtain ⟨ws', k1, k2, k3, k4⟩ := fill_sound (pl := rowPlace i.size len) (pl' := fun j => some (j * i.size, i.size)) (fun j p hp => hp) _ _ hz (ones_zeros q5 _) hparts hcs
            obtain ⟨μ', g1, g2, g3⟩ := new_sound s e cs ws' k2 k3
            have hcl : cs.length = len * i.size := by rw [k4, zeros_length, q6]
            simp only [execOp, ho]
            refine Goes.of_value ⟨.slice (some ⟨w.heap.size, 0, none⟩) len len, _, μ', ?_, ?_, g2, g3⟩
            · unfold Instr.buildSlice
              simp only [Sem.run_bind, run_und hu, Result.andThen_ok, run_size hq, Sem.run_pure]
              rw [if_neg (by rw [q1]; omega)]
              rw [hzl] at k1
              by_cases h0 : len * q.size = 0
              · rw [if_pos h0]
                rw [q1] at h0 ⊢
                have k1' : Instr.fill (fun j => some (j * i.size, i.size)) ((Array.range (len * i.size)).map fun j => (#[] : Array Value)[j % (#[] : Array Value).size]!) (parts.map fun p => (p.1, ρc p.2)).toList = some ws' := by
                  simp only [h0, show Array.range 0 = #[] from rfl, List.map_toArray, Array.map_empty] at k1 ⊢
                  simpa using k1
                simp only [Sem.run_bind, Sem.run_pure, Result.andThen_ok, k1', run_newRow]
              · rw [if_neg h0]
                have k1' : Instr.fill (fun j => some (j * i.size, i.size)) ((Array.range (len * i.size)).map fun j => z.cells[j % z.cells.size]!) (parts.map fun p => (p.1, ρc p.2)).toList = some ws' := by
                  simp only [hzl]
                  simpa using k1
                simp only [Sem.run_bind, run_zero hq q3, Sem.run_pure, Result.andThen_ok, q1, k1', run_newRow]
            · simp only [VR]
              refine ⟨_, len, rfl, Nat.le_refl _, Nat.le_refl _, fun _ => rfl, .inr ⟨_, 0, g1, rfl, by simp only [hcl]; omega, fun _ => rfl⟩⟩
          · cases h
        · cases h
      · cases h
    · cases h
  case load t x =>
    split at h
    · rename_i i b off hT hx
      have hx' := hρ _ _ hx
      simp only [VR] at hx'
      obtain ⟨y, hy, ey⟩ := hx'
      have hH : H' = H := by
        split at h
        · simp only [Option.map_eq_some_iff, Prod.mk.injEq] at h; obtain ⟨_, _, _, rfl⟩ := h; rfl
        · split at h
          · simp only [Option.some.injEq, Prod.mk.injEq] at h; exact h.2.symm
          · cases h
      subst hH
      obtain ⟨cv, h1, h2⟩ := load_sound fit s hT hy h
      simp only [execOp, ho, ey]
      refine Goes.of_value ⟨cv, w, μ, ?_, h2, s, Tr.refl _ _ _⟩
      simpa [Instr.loadAt, Instr.sureAddr] using h1
    · cases h
  case store t x yy =>
    split at h
    · rename_i i b off u hT hx hyv
      have hx' := hρ _ _ hx
      have hu := hρ _ _ hyv
      simp only [VR] at hx'
      obtain ⟨y, hy, ey⟩ := hx'
      have key : u.isTup = false → (if u.cells.length = i.size then (H.storeN b off u.cells).map fun h' => (V.undef, h') else none) = some (v, H') → Goes P μ H w (execOp ρc o) v H' := fun ht e => by
        split at e
        · rename_i hl
          simp only [Option.map_eq_some_iff, Prod.mk.injEq] at e
          obtain ⟨h', hst, rfl, rfl⟩ := e
          obtain ⟨w', k1, k2, k3⟩ := store_sound fit s hT hy hu ht hl hst
          refine ⟨.skip, w', μ, ?_, .inr ⟨rfl, rfl⟩, k2, k3⟩
          simp only [execOp, ho, ey]
          simp [Instr.storeAt, Instr.sureAddr, k1]
        · cases e
      split at h
      · cases h
      · rename_i hnt
        exact key (by cases u <;> first | rfl | exact absurd rfl (hnt _)) h
    · cases h
  case makeSlice t n c =>
    split at h
    · rename_i e _ _ _ _ kn nn kc cc hT hn hc
      split at h
      · rename_i i hE
        split at h
        · rename_i hb
          obtain ⟨b1, b2, b3, b4⟩ := hb
          simp only [Option.some.injEq, Prod.mk.injEq] at h
          obtain ⟨rfl, rfl⟩ := h
          obtain ⟨q, z, hq, q1, q2, q3, q4, q5, q6⟩ := (fit _ _ hE).info
          have hu : P.underlying t = some (.slice e) := (fit _ _ hT).kind
          have hzl : z.cells.size = i.size := by have := (q4 μ).length; simp only [Array.length_toList] at this; omega
          have hz := zeros_sound (q4 μ) cc.toNat
          have w1 := wrap_id (m := nn) b1 (by omega)
          have w2 := wrap_id (m := cc) (by omega) b4
          obtain ⟨μ', g1, g2, g3⟩ := new_sound s e _ _ hz (ones_zeros q5 _)
          simp only [execOp, ho, (hρ _ _ hn).int, (hρ _ _ hc).int]
          refine Goes.of_value ⟨.slice (some ⟨w.heap.size, 0, none⟩) nn.toNat cc.toNat, _, μ', ?_, ?_, g2, g3⟩
          · have hq2 : (q.bytes : Int) = i.bytes := by rw [q2]
            unfold Instr.makeSlice
            simp only [asInt, asIntOf, Sem.run_bind, run_und hu, Result.andThen_ok, run_info hq, run_size hq, Sem.run_pure, w1, w2, hq2]
            rw [if_neg (by
              simp only [Bool.or_eq_true, decide_eq_true_eq, not_or, Int.not_lt]
              refine ⟨⟨⟨by omega, by omega⟩, by omega⟩, by omega⟩)]
            simp only [Sem.run_bind, run_askRoom, run_size hq, Sem.run_pure, Result.andThen_ok]
            by_cases h0 : cc.toNat * q.size = 0
            · rw [if_pos h0]
              have e0 : ((Array.range (cc.toNat * q.size)).map fun j => (#[] : Array Value)[j % (#[] : Array Value).size]!) = ((Array.range (cc.toNat * z.cells.size)).map fun j => z.cells[j % z.cells.size]!) := by
                rw [hzl, ← q1, h0]; simp [show Array.range 0 = #[] from rfl]
              simp only [Sem.run_bind, Sem.run_pure, Result.andThen_ok, e0, run_newRow]
            · rw [if_neg h0]
              have e0 : ((Array.range (cc.toNat * q.size)).map fun j => z.cells[j % z.cells.size]!) = ((Array.range (cc.toNat * z.cells.size)).map fun j => z.cells[j % z.cells.size]!) := by
                rw [hzl, ← q1]
              simp only [Sem.run_bind, run_zero hq q3, Sem.run_pure, Result.andThen_ok, e0, run_newRow]
          · simp only [VR]
            refine ⟨_, cc.toNat, rfl, by omega, Nat.le_refl _, fun _ => rfl, .inr ⟨_, 0, g1, rfl, by simp only [zeros_length, q6]; omega, fun _ => rfl⟩⟩
        · cases h
      · cases h
    · cases h
  case convert sT dT x =>
    split at h
    · rename_i _ _ _ _ e _ _ _ _ b hS hD hx
      split at h
      · rename_i hE
        simp only [Option.some.injEq, Prod.mk.injEq] at h
        obtain ⟨rfl, rfl⟩ := h
        have hs : P.underlying sT = some .string := (fit _ _ hS).kind
        have hd : P.underlying dT = some (.slice e) := (fit _ _ hD).kind
        have he : P.underlying e = some (.int .u8) := (fit _ _ hE).kind
        obtain ⟨μ', k1, k2, k3⟩ := s2b_sound s e b
        simp only [execOp, ho, (hρ _ _ hx).str]
        exact Goes.of_value ⟨_, _, μ', Lib.run_convert_string_bytes w sT dT e b hs hd he, k1, k2, k3⟩
      · cases h
    · rename_i e _ _ _ _ _ _ _ _ b off n cap tt sz hS hD hx
      split at h
      · rename_i hE
        have hs : P.underlying sT = some (.slice e) := (fit _ _ hS).kind
        have hd : P.underlying dT = some .string := (fit _ _ hD).kind
        have he : P.underlying e = some (.int .u8) := (fit _ _ hE).kind
        have hv := hρ _ _ hx
        have hv0 := hv
        simp only [VR] at hv
        obtain ⟨a, c, ey, k1, k2, k3, k45⟩ := hv
        have fin : ∀ (cs : List V) (bs : List UInt8), (H.loadN b off (n * 1) = some cs ∨ (n = 0 ∧ cs = [])) → V.toBytes cs = some bs → (v, H') = (.str ⟨bs.toArray⟩, H) → Goes P μ H w (execOp ρc o) v H' := fun cs bs hl hb e' => by
          simp only [Prod.mk.injEq] at e'
          obtain ⟨rfl, rfl⟩ := e'
          obtain ⟨ws, f1, f2, f3⟩ := firstCells_sound (P := P) (n := n) (size := 1) s hv0 (by omega) hl
          obtain ⟨ns, e1, e2⟩ := toBytes_sound hb f2
          have hload : (loadCells a n).run P w = .ok (ns.map (Value.int .u8)).toArray w := by
            have := f1 w rfl
            rw [ey] at this
            simp only [Builtin.firstCells, Nat.mul_one] at this
            rw [this, ← e1]
          simp only [execOp, ho, ey]
          refine Goes.of_value ⟨_, w, μ, ?_, VR.mk_str _, s, Tr.refl _ _ _⟩
          rw [run_convert_bytes_string w sT dT e _ n c hs he hd, run_bytesToString w _ n c ns hload, foldl_push, e2]
          simp
        split at h
        · rename_i h0
          simp only [Option.some.injEq] at h
          exact fin [] [] (.inr ⟨h0, rfl⟩) rfl h.symm
        · rename_i h0
          split at h
          · rename_i cs hl
            split at h
            · rename_i bs hb
              simp only [Option.some.injEq] at h
              exact fin cs bs (.inl (by rw [Nat.mul_one]; exact hl)) hb h.symm
            · cases h
          · cases h
      · cases h
    · rename_i e _ _ _ _ _ _ _ _ hS hD hx
      split at h
      · rename_i hE
        simp only [Option.some.injEq, Prod.mk.injEq] at h
        obtain ⟨rfl, rfl⟩ := h
        have hs : P.underlying sT = some (.slice e) := (fit _ _ hS).kind
        have hd : P.underlying dT = some .string := (fit _ _ hD).kind
        have he : P.underlying e = some (.int .u8) := (fit _ _ hE).kind
        simp only [execOp, ho, (hρ _ _ hx).nils]
        refine Goes.of_value ⟨_, w, μ, ?_, VR.mk_str _, s, Tr.refl _ _ _⟩
        rw [run_convert_bytes_string w sT dT e _ 0 0 hs he hd]
        rfl
      · cases h
    · cases h
  case makeMap t r =>
    cases r <;> simp only [memOp, reduceCtorEq, Option.some.injEq, Prod.mk.injEq] at h
    obtain ⟨rfl, rfl⟩ := h
    obtain ⟨k1, k2⟩ := sim_newmap s
    simp only [execOp, ho]
    refine Goes.of_value ⟨.map (some w.heap.size), _, _, ?_, by simp only [VR]; exact ⟨_, Mu.put_same _ _ _, rfl⟩, k1, k2⟩
    simp [Instr.makeMap]
  case lookup t x ix ok =>
    cases ok <;> simp only [memOp, reduceCtorEq] at h
    split at h
    · rename_i b k hT hx hi
      split at h
      · rename_i es hb
        simp only [Option.some.injEq, Prod.mk.injEq] at h
        obtain ⟨rfl, rfl⟩ := h
        simp only [execOp, ho, (hρ _ _ hi).int]
        exact Goes.of_value ⟨_, w, μ, lookup_sound s (fit _ _ hT).kind (hρ _ _ hx) hb, VR.mk_int _ _, s, Tr.refl _ _ _⟩
      · cases h
    · cases h
  case mapUpdate t x ix yv =>
    split at h
    · rename_i b k u hT hx hi hy
      split at h
      · rename_i es hb
        simp only [Option.some.injEq, Prod.mk.injEq] at h
        obtain ⟨rfl, rfl⟩ := h
        obtain ⟨w', k1, k2, k3⟩ := update_sound (v := u) (k := k) s (fit _ _ hT).kind (hρ _ _ hx) hb
        refine ⟨.skip, w', μ, ?_, .inr ⟨rfl, rfl⟩, k2, k3⟩
        simp only [execOp, ho, (hρ _ _ hi).int, (hρ _ _ hy).int]
        simp [k1]
      · cases h
    · cases h
  case call c =>
    obtain ⟨callee, xs, ts⟩ := c
    cases callee <;> (try simp only [memOp, reduceCtorEq] at h)
    rename_i b
    cases b <;> (try simp only [memOp, reduceCtorEq] at h)
    case append =>
      split at h
      · rename_i sv x t1 t2 hx hts
        have hxs := evs_sound hρ _ hx
        split at h
        · rename_i e _ _ _ _ hT
          split at h
          · rename_i i hE
            split at h
            · rename_i n news hnw
              obtain ⟨c1, c2, ec, hc1, hc2⟩ := hxs.two
              have ecs : xs.map ρc = #[c1, c2] := arr_of_list (by simpa using ec)
              obtain ⟨cv, w', μ', k1, k2, k3, k4⟩ := append_sound (t2 := t2) (ty := o.type) fit s (fit _ _ hT).kind hE hc1 (fun hl => newsOf_sound fit s hE hc2 hnw hl) h
              refine ⟨.value cv, w', μ', run_builtin ho ?_, .inl ⟨cv, rfl, k2⟩, k3, k4⟩
              rw [ecs, arr_of_list hts]
              exact run_value k1
            · cases h
          · cases h
        · cases h
      · cases h
    case copy =>
      split at h
      · rename_i sv x t1 t2 hx hts
        have hxs := evs_sound hρ _ hx
        split at h
        · rename_i e _ _ _ _ e2 _ _ _ _ hT hT2
          split at h
          · rename_i i hE
            obtain ⟨c1, c2, ec, hc1, hc2⟩ := hxs.two
            have ecs : xs.map ρc = #[c1, c2] := arr_of_list (by simpa using ec)
            obtain ⟨cv, w', μ', k1, k2, k3, k4⟩ := copy_sound (t2 := t2) (ty := o.type) fit s (fit _ _ hT).kind hE hc1 hc2 h
            refine ⟨.value cv, w', μ', run_builtin ho ?_, .inl ⟨cv, rfl, k2⟩, k3, k4⟩
            rw [ecs, arr_of_list hts]
            exact run_value k1
          · cases h
        · cases h
      · cases h
    case clear =>
      split at h
      · rename_i b off n cap tt sz t1 hx hts
        have hxs := evs_sound hρ _ hx
        split at h
        · rename_i e _ _ _ _ hT
          split at h
          · rename_i i hE
            obtain ⟨q, z, hq, q1, q2, q3, q4, q5, q6⟩ := (fit _ _ hE).info
            have hu : P.underlying t1 = some (.slice e) := (fit _ _ hT).kind
            obtain ⟨c1, ec, hc1⟩ := hxs.one
            have ecs : xs.map ρc = #[c1] := arr_of_list (by simpa using ec)
            simp only [VR] at hc1
            obtain ⟨a, c, ey, k1, k2, k3, k45⟩ := hc1
            have run : ∀ {w' : World}, (Builtin.clear_ #[t1] o.type #[c1]).run P w = .ok (.tuple #[]) w' → Sim μ H' w' → Tr μ H w μ H' w' → v = .tup [] → Goes P μ H w (execOp ρc o) v H' := fun r1 r2 r3 r4 => by
              subst r4
              refine ⟨.value (.tuple #[]), _, μ, run_builtin ho ?_, .inl ⟨_, rfl, VR.undef⟩, r2, r3⟩
              rw [ecs, arr_of_list hts]
              exact run_value r1
            split at h
            · rename_i h0
              simp only [Option.some.injEq, Prod.mk.injEq] at h
              obtain ⟨rfl, rfl⟩ := h
              refine run ?_ s (Tr.refl _ _ _) rfl
              rw [ey, h0]
              unfold Builtin.clear_
              simp only [List.getElem?_toArray, List.getElem?_cons_zero, Sem.run_bind, run_und hu, Result.andThen_ok, Sem.run_pure]
            · rename_i h0
              simp only [Option.map_eq_some_iff, Prod.mk.injEq] at h
              obtain ⟨h', hst, rfl, rfl⟩ := h
              rcases k45 with ⟨_, q2⟩ | ⟨y, oo, hy, rfl, k4, k5⟩
              · omega
              obtain rfl := k5 (by omega)
              obtain ⟨w', r1, r2, r3⟩ := sim_storeN P s hy hst (zeros_sound (q4 μ) n) (ones_zeros q5 n)
              refine run ?_ r2 r3 rfl
              rw [ey]
              unfold Builtin.clear_
              obtain ⟨n, rfl⟩ : ∃ m, n = m + 1 := ⟨n - 1, by omega⟩
              simp only [List.getElem?_toArray, List.getElem?_cons_zero, Sem.run_bind, run_und hu, Result.andThen_ok, Sem.run_pure, run_zero hq q3, Builtin.zeroCells]
              rw [r1]
              rfl
          · cases h
        · cases h
      · cases h

end Go.Proofs.Ytjageapgbpdlhaa.VM
