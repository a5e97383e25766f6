/- THE SMALL MACHINE, part E: its operations without memory are the model's, all of them. -/
import Derived.Test.YtjageapgbpdlhaaVmD
namespace Go.Proofs.Ytjageapgbpdlhaa.VM
open Go
set_option linter.unusedVariables false
set_option linter.unusedSimpArgs false

variable {P : Program} {T : Tab} {μ : Mu}

theorem VRs.setL {cs : List V} {ws : List Value} (h : VRs μ cs ws) : ∀ {vs : List V} {us : List Value} (i : Nat), VRs μ vs us → VRs μ (setL cs i vs) (setL ws i us)
  | [], _, i, hv => by simp only [VRs] at hv; subst hv; exact h
  | v :: vs, _, i, hv => by
    simp only [VRs] at hv
    obtain ⟨w, us', rfl, h1, h2⟩ := hv
    simp only [VM.setL]
    exact VRs.setL (h.set i h1) (i + 1) h2

theorem ones_set {cs : List V} (h : ∀ c ∈ cs, c.one = true) (i : Nat) {v : V} (hv : v.one = true) : ∀ c ∈ cs.set i v, c.one = true := fun c hc => by
  rcases List.mem_or_eq_of_mem_set hc with h' | h'
  · exact h c h'
  · exact h' ▸ hv

theorem ones_setL {cs : List V} (h : ∀ c ∈ cs, c.one = true) : ∀ {vs : List V} (i : Nat), (∀ v ∈ vs, v.one = true) → ∀ c ∈ setL cs i vs, c.one = true
  | [], i, _ => h
  | v :: vs, i, hv => ones_setL (ones_set h i (hv v (by simp))) (i + 1) (fun u hu => hv u (by simp [hu]))

theorem foldl_set (off : Nat) : ∀ (vs : List Value) (j : Nat) (cells : Array Value), ((vs.zipIdx j).foldl (fun cs (p : Value × Nat) => cs.setIfInBounds (off + p.2) p.1) cells).toList = setL cells.toList (off + j) vs
  | [], j, cells => rfl
  | v :: vs, j, cells => by
    simp only [List.zipIdx_cons, List.foldl_cons, VM.setL]
    rw [foldl_set off vs (j + 1)]
    simp [Nat.add_assoc]

def PartsR (μ : Mu) : List (Nat × V) → List (Nat × Value) → Prop
  | [], us => us = []
  | p :: ps, us => ∃ q qs, us = q :: qs ∧ p.1 = q.1 ∧ VR μ p.2 q.2 ∧ PartsR μ ps qs

theorem evParts_sound {ρ : Operand → Option V} {ρc : Operand → Value} (hρ : ∀ x v, ρ x = some v → VR μ v (ρc x)) : ∀ (xs : List (Nat × Operand)) {ps : List (Nat × V)}, evParts ρ xs = some ps → PartsR μ ps (xs.map fun p => (p.1, ρc p.2))
  | [], _, h => by simp only [evParts, Option.some.injEq] at h; subst h; simp [PartsR]
  | (i, x) :: xs, _, h => by
    simp only [evParts] at h
    split at h
    · rename_i v vs hv hvs
      simp only [Option.some.injEq] at h
      subst h
      simp only [List.map_cons, PartsR]
      exact ⟨_, _, rfl, rfl, hρ x v hv, evParts_sound hρ xs hvs⟩
    · cases h

theorem fill_sound {pl pl' : Nat → Option (Nat × Nat)} (hpl : ∀ i p, pl i = some p → pl' i = some p) : ∀ (ps : List (Nat × V)) (qs : List (Nat × Value)) {cs cs' : List V} {ws : Array Value}, VRs μ cs ws.toList → (∀ c ∈ cs, c.one = true) → PartsR μ ps qs →
    fillV pl cs ps = some cs' → ∃ ws', Instr.fill pl' ws qs = some ws' ∧ VRs μ cs' ws'.toList ∧ (∀ c ∈ cs', c.one = true) ∧ cs'.length = cs.length
  | [], qs, cs, cs', ws, hc, h1, hp, h => by
    simp only [PartsR] at hp
    subst hp
    simp only [fillV, Option.some.injEq] at h
    subst h
    exact ⟨ws, rfl, hc, h1, rfl⟩
  | (i, v) :: ps, qs, cs, cs', ws, hc, h1, hp, h => by
    simp only [PartsR] at hp
    obtain ⟨⟨j, u⟩, qs', rfl, rfl, hv, hp'⟩ := hp
    simp only [fillV] at h
    split at h
    · cases h
    · rename_i off size hpi
      split at h
      · rename_i hl
        obtain ⟨hl0, hl1, hl2⟩ := hl
        have hnt' : ∀ vs, v ≠ .tup vs := fun vs e => by subst e; simp [V.isTup] at hl0
        obtain ⟨hcells, hone⟩ := VR.cells hv hnt'
        have hlen : u.cells.size = size := by
          have := hcells.length
          simp only [Array.length_toList] at this
          omega
        have hsz : ws.size = cs.length := by have := hc.length; simpa using this
        obtain ⟨ws', k1, k2, k3, k4⟩ := fill_sound hpl ps qs' (cs := setL cs off v.cells) (ws := u.cells.zipIdx.foldl (fun cs (c, j) => cs.setIfInBounds (off + j) c) ws) (by
          rw [← Array.foldl_toList, Array.toList_zipIdx, foldl_set off u.cells.toList 0 ws]
          exact hc.setL _ hcells) (ones_setL h1 _ hone) hp' h
        refine ⟨ws', ?_, k2, k3, by rw [k4, setL_length]⟩
        simp only [Instr.fill, hpl _ _ hpi]
        rw [if_neg (by simp only [ne_eq, Bool.or_eq_true, decide_eq_true_eq, not_or, Decidable.not_not]; exact ⟨by simpa using hlen, by omega⟩)]
        exact k1
      · cases h

theorem places_get {P : Program} : ∀ {fs : List Field} {places : List (Nat × Nat)}, fs.mapM (fun f => (P.info? f.type).map fun i => (f.offset, i.size)) = some places → ∀ (i : Nat) f, fs[i]? = some f → ∃ q, P.info? f.type = some q ∧ places[i]? = some (f.offset, q.size)
  | [], _, h, i, f, hf => by simp at hf
  | g :: fs, places, h, i, f, hf => by
    simp only [List.mapM_cons, Option.bind_eq_bind, Option.pure_def] at h
    cases hi : P.info? g.type with
    | none => simp [hi] at h
    | some q =>
      cases hr : fs.mapM (fun f => (P.info? f.type).map fun i => (f.offset, i.size)) with
      | none => simp [hi, hr] at h
      | some rest =>
        simp [hi, hr] at h
        subst h
        cases i with
        | zero => simp at hf; subst hf; exact ⟨q, hi, rfl⟩
        | succ i => simp at hf; simpa using places_get hr i f hf

theorem fld_get {F : Array Field} {fs : List (Nat × Nat)} (h : F.toList.map (fun f => (f.type, f.offset)) = fs) {i t off : Nat} (hi : fs[i]? = some (t, off)) : ∃ f, F[i]? = some f ∧ f.type = t ∧ f.offset = off := by
  subst h
  rw [List.getElem?_map] at hi
  simp only [Array.getElem?_toList, Option.map_eq_some_iff, Prod.mk.injEq] at hi
  obtain ⟨f, h1, h2, h3⟩ := hi
  exact ⟨f, h1, h2, h3⟩

theorem bound_none {d m r : Nat} (h : boundV none d m = some r) : r = d := by simpa [boundV] using h.symm
theorem bound_some {x : V} {d m r : Nat} (h : boundV (some x) d m = some r) : ∃ k i, x = .int k i ∧ 0 ≤ i ∧ i ≤ m ∧ r = i.toNat := by
  cases x with
  | int k i =>
    simp only [boundV] at h
    split at h
    · rename_i hi
      simp only [Option.some.injEq] at h
      exact ⟨k, i, rfl, hi.1, hi.2, h.symm⟩
    · cases h
  | _ => simp [boundV] at h

def OptR (μ : Mu) : Option V → Option Value → Prop
  | none, w => w = none
  | some v, w => ∃ u, w = some u ∧ VR μ v u

theorem optEv_sound {ρ : Operand → Option V} {ρc : Operand → Value} (hρ : ∀ x v, ρ x = some v → VR μ v (ρc x)) {x : Option Operand} {v : Option V} (h : optEv ρ x = some v) : OptR μ v (x.map ρc) := by
  cases x with
  | none => simp only [optEv, Option.some.injEq] at h; subst h; rfl
  | some x =>
    simp only [optEv, Option.map_eq_some_iff] at h
    obtain ⟨u, hu, rfl⟩ := h
    exact ⟨_, rfl, hρ x u hu⟩

theorem run_bound {k : IntKind} {i : Int} {y : Nat} (h0 : 0 ≤ i) (h1 : i ≤ y) (c : BoundsCode) (w : World) : (Instr.sliceBound (.int k i) y c).run P w = .ok i.toNat w := by
  simp [Instr.sliceBound, asIntOf, h0, h1]

/-- the three bounds -/
theorem run_bounds {sl : Bool} {len cap cap' m h l : Nat} {lo hi mx : Option V} {lo' hi' mx' : Option Value} (rlo : OptR μ lo lo') (rhi : OptR μ hi hi') (rmx : OptR μ mx mx') (hc : cap ≤ cap')
    (hm : boundV mx cap cap = some m) (hh : (if mx.isSome then boundV hi len m else boundV hi len cap) = some h) (hx : (mx.isSome && hi.isNone) = false) (hl : boundV lo 0 h = some l) (w : World) :
    (Instr.sliceBounds sl len cap' lo' hi' mx').run P w = .ok (l, h, if mx.isSome then m else cap') w := by
  unfold Instr.sliceBounds
  cases mx with
  | none =>
    simp only [OptR] at rmx; subst rmx
    obtain rfl := bound_none hm
    simp only [Option.isSome_none, Bool.false_eq_true, if_false] at hh ⊢
    cases hi with
    | none =>
      simp only [OptR] at rhi; subst rhi
      obtain rfl := bound_none hh
      cases lo with
      | none => simp only [OptR] at rlo; subst rlo; obtain rfl := bound_none hl; simp
      | some lo =>
        obtain ⟨u, rfl, hu⟩ := rlo
        obtain ⟨k, i, rfl, i0, i1, rfl⟩ := bound_some hl
        rw [hu.int]
        simp [run_bound i0 i1]
    | some hi =>
      obtain ⟨u, rfl, hu⟩ := rhi
      obtain ⟨k, i, rfl, i0, i1, rfl⟩ := bound_some hh
      rw [hu.int]
      cases lo with
      | none => simp only [OptR] at rlo; subst rlo; obtain rfl := bound_none hl; simp [run_bound i0 (show i ≤ (cap' : Int) by omega)]
      | some lo =>
        obtain ⟨u', rfl, hu'⟩ := rlo
        obtain ⟨k', i', rfl, j0, j1, rfl⟩ := bound_some hl
        rw [hu'.int]
        simp [run_bound i0 (show i ≤ (cap' : Int) by omega), run_bound j0 j1]
  | some mx =>
    obtain ⟨um, rfl, hum⟩ := rmx
    obtain ⟨km, im, rfl, m0, m1, rfl⟩ := bound_some hm
    rw [hum.int]
    simp only [Option.isSome_some, if_true] at hh ⊢
    cases hi with
    | none => simp at hx
    | some hi =>
      obtain ⟨u, rfl, hu⟩ := rhi
      obtain ⟨k, i, rfl, i0, i1, rfl⟩ := bound_some hh
      rw [hu.int]
      cases lo with
      | none => simp only [OptR] at rlo; subst rlo; obtain rfl := bound_none hl; simp [run_bound i0 i1, run_bound m0 (show im ≤ (cap' : Int) by omega)]
      | some lo =>
        obtain ⟨u', rfl, hu'⟩ := rlo
        obtain ⟨k', i', rfl, j0, j1, rfl⟩ := bound_some hl
        rw [hu'.int]
        simp [run_bound i0 i1, run_bound m0 (show im ≤ (cap' : Int) by omega), run_bound j0 j1]

theorem bound_le {x : Option V} {d m r : Nat} (h : boundV x d m = some r) (hd : d ≤ m) : r ≤ m := by
  cases x with
  | none => rw [bound_none h]; exact hd
  | some x => obtain ⟨k, i, rfl, i0, i1, rfl⟩ := bound_some h; omega

theorem sliceV_sound {t e size : Nat} {q : TypeInfo} (hu : P.underlying t = some (.slice e)) (hq : P.info? e = some q) (hsz : q.size = size) {x v : V} {cx : Value} {lo hi mx : Option V} {lo' hi' mx' : Option Value}
    (hx : VR μ x cx) (rlo : OptR μ lo lo') (rhi : OptR μ hi hi') (rmx : OptR μ mx mx') (h : sliceV size x lo hi mx = some v) :
    ∃ cv, VR μ v cv ∧ ∀ w, (Instr.slice t cx lo' hi' mx').run P w = .ok cv w := by
  have hnn : (mx.isSome && hi.isNone) = false := by
    unfold sliceV at h
    split at h
    · cases h
    · rename_i hh; exact (Bool.not_eq_true _).mp hh
  unfold sliceV at h
  rw [if_neg (by rw [hnn]; simp)] at h
  cases x with
  | nils =>
    have ex := hx.nils
    subst ex
    simp only [] at h
    split at h
    · rename_i h1 h2 h3
      simp only [Option.some.injEq] at h
      subst h
      refine ⟨_, VR.mk_nils, fun w => ?_⟩
      have := run_bounds (P := P) (sl := true) (len := 0) (cap := 0) (cap' := 0) (m := 0) (h := 0) (l := 0) rlo rhi rmx (Nat.le_refl _) h1 (by rw [h2]; simp) hnn h3 w
      unfold Instr.slice
      simp only [Sem.run_bind, run_und hu, Result.andThen_ok, this, run_size hq]
      cases mx <;> simp
    · cases h
  | slc b off len cap tt sz =>
    simp only [VR] at hx
    obtain ⟨a, c, ex, k1, k2, k3, k45⟩ := hx
    subst ex
    simp only [] at h
    split at h
    · cases h
    rename_i hsize
    simp only [ne_eq, Decidable.not_not] at hsize
    split at h
    · rename_i m hm
      split at h
      · rename_i hh' hh
        split at h
        · rename_i l hl
          simp only [Option.some.injEq] at h
          subst h
          have hrun := fun w => run_bounds (P := P) (sl := true) (len := len) (cap := cap) (cap' := c) rlo rhi rmx k2 hm hh hnn hl w
          have hml : m ≤ cap := bound_le hm (Nat.le_refl _)
          have hhm : hh' ≤ m := by
            cases mx with
            | none =>
              obtain rfl := bound_none hm
              simp only [Option.isSome_none, Bool.false_eq_true, if_false] at hh
              exact bound_le hh k1
            | some mx =>
              simp only [Option.isSome_some, if_true] at hh
              cases hi with
              | none => simp at hnn
              | some hi => obtain ⟨k, i, rfl, i0, i1, rfl⟩ := bound_some hh; omega
          have hlh : l ≤ hh' := bound_le hl (Nat.zero_le _)
          refine ⟨.slice (some (if (if mx.isSome then m else c) = l then a else a.add (l * size))) (hh' - l) ((if mx.isSome then m else c) - l), ?_, fun w => ?_⟩
          · simp only [VR]
            have hM : (if mx.isSome then m else c) ≤ c := by split <;> omega
            have hM2 : m ≤ (if mx.isSome then m else c) := by
              cases mx with
              | none => simp; obtain rfl := bound_none hm; exact k2
              | some _ => simp
            have hT : (tt || mx.isSome) = true → (if mx.isSome then m else c) = m := fun ht => by
              cases mx with
              | none =>
                simp only [Option.isSome_none, Bool.or_false] at ht
                obtain rfl := bound_none hm
                simp [k3 ht]
              | some _ => simp
            generalize (if mx.isSome then m else c) = M at hM hM2 hT ⊢
            refine ⟨_, M - l, rfl, by omega, by omega, fun ht => by rw [hT ht], ?_⟩
            rcases k45 with ⟨q1, q2⟩ | ⟨y, o, hy, ea, k4, k5⟩
            · exact .inl ⟨by rw [q1]; rfl, by omega⟩
            refine .inr ⟨y, if M = l then o else o + l * size, hy, ?_, ?_, ?_⟩
            · subst ea
              rw [add_at]
              split <;> simp [Nat.add_assoc]
            · rw [hsize]
              split
              · rename_i he
                rw [he, Nat.sub_self, Nat.zero_mul]
                omega
              · have hcm : (M - l) * size + l * size ≤ c * size := by
                  rw [← Nat.add_mul]
                  exact Nat.mul_le_mul_right _ (by omega)
                rw [hsize] at k4
                omega
            · intro h0
              have hne : M ≠ l := by omega
              rw [if_neg hne, k5 (by omega)]
          · unfold Instr.slice
            simp only [Sem.run_bind, run_und hu, Result.andThen_ok, hrun w, run_size hq, Sem.run_pure, hsz]
            generalize (if mx.isSome then m else c) = M
            simp only [Option.map_some]
            split <;> rfl
        · cases h
      · cases h
    · cases h
  | _ => simp at h

theorem sliceS_sound {t : Nat} (hu : P.underlying t = some .string) {s : ByteArray} {v : V} {lo hi : Option V} {lo' hi' : Option Value}
    (rlo : OptR μ lo lo') (rhi : OptR μ hi hi') (h : sliceS s lo hi = some v) : ∃ cv, VR μ v cv ∧ ∀ w, (Instr.slice t (.string s) lo' hi' none).run P w = .ok cv w := by
  unfold sliceS at h
  split at h
  · rename_i hh h1
    split at h
    · rename_i l h2
      simp only [Option.some.injEq] at h
      subst h
      refine ⟨_, VR.mk_str _, fun w => ?_⟩
      have := run_bounds (P := P) (sl := false) (len := s.size) (cap := s.size) (cap' := s.size) (m := s.size) (h := hh) (l := l) (mx := none) (mx' := none) rlo rhi rfl (Nat.le_refl _) rfl (by simpa using h1) rfl h2 w
      unfold Instr.slice
      simp [run_und hu, this]
    · cases h
  · cases h

theorem fits_und {t : Nat} {i : TI} (f : i.fits P t) : ∃ d, P.underlying t = some d := by
  have := f.kind
  cases hk : i.k <;> rw [hk] at this <;> simp only [TK.fits] at this
  case strct => obtain ⟨F, _, h, _⟩ := this; exact ⟨_, h⟩
  case ptr => obtain ⟨e, h⟩ := this; exact ⟨_, h⟩
  case map => obtain ⟨_, _, _, h, _⟩ := this; exact ⟨_, h⟩
  case other => obtain ⟨d, h, _⟩ := this; exact ⟨_, h⟩
  all_goals exact ⟨_, this⟩

theorem run_builtin {ρc : Operand → Value} {o : Oper} {b : Builtin} {xs : Array Operand} {ts : Array TypeId} (ho : o.op = .call { callee := .builtin b, args := xs, argTypes := ts }) {w : World} {r : Result Next}
    (h : (builtin b ts o.type (xs.map fun | .const _ => true | _ => false) (xs.map ρc)).run P w = r) : (execOp ρc o).run P w = r := by
  simp only [execOp, ho, resolve, invoke, Sem.run_bind, Sem.run_pure, Result.andThen_ok]
  exact h

theorem VRs.one {v : V} {ws : List Value} (h : VRs μ [v] ws) : ∃ w, ws = [w] ∧ VR μ v w := by
  simp only [VRs] at h
  obtain ⟨w, ws', rfl, h1, rfl⟩ := h
  exact ⟨w, rfl, h1⟩
theorem VRs.two {v u : V} {ws : List Value} (h : VRs μ [v, u] ws) : ∃ w x, ws = [w, x] ∧ VR μ v w ∧ VR μ u x := by
  simp only [VRs] at h
  obtain ⟨w, ws', rfl, h1, x, ws'', rfl, h2, rfl⟩ := h
  exact ⟨w, x, rfl, h1, h2⟩

theorem arr_of_list {α : Type} {a : Array α} {l : List α} (h : a.toList = l) : a = l.toArray := by subst h; simp

theorem builtinP_sound (fit : Fits P T) {b : Builtin} {ts : Array Nat} {xs : List V} {cs : Array Value} {v : V} (hx : VRs μ xs cs.toList) (h : builtinP T b ts.toList xs = some v) (ty : TypeId) (consts : Array Bool) :
    ∃ cv, VR μ v cv ∧ ∀ w, (builtin b ts ty consts cs).run P w = .ok (.value cv) w := by
  generalize htl : ts.toList = tl at h
  unfold builtinP at h
  split at h
  · rename_i t s
    split at h
    · rename_i hT
      simp only [Option.some.injEq] at h; subst h
      obtain ⟨c, ec, hc⟩ := hx.one
      rw [arr_of_list ec, arr_of_list htl, hc.str]
      refine ⟨_, VR.mk_int _ _, fun w => ?_⟩
      have hu : P.underlying t = some .string := (fit _ _ hT).kind
      simp [builtin, Builtin.len_, run_und hu, goInt]
    · cases h
  · rename_i t _ _ n _ _ _
    split at h
    · rename_i hT
      simp only [Option.some.injEq] at h; subst h
      obtain ⟨c, ec, hc⟩ := hx.one
      simp only [VR] at hc
      obtain ⟨_, _, ev, _⟩ := hc
      rw [arr_of_list ec, arr_of_list htl, ev]
      refine ⟨_, VR.mk_int _ _, fun w => ?_⟩
      have hu : P.underlying t = some (.slice _) := (fit _ _ hT).kind
      simp [builtin, Builtin.len_, run_und hu, goInt]
    · cases h
  · rename_i t
    split at h
    · rename_i hT
      simp only [Option.some.injEq] at h; subst h
      obtain ⟨c, ec, hc⟩ := hx.one
      rw [arr_of_list ec, arr_of_list htl, hc.nils]
      refine ⟨_, VR.mk_int _ _, fun w => ?_⟩
      have hu : P.underlying t = some (.slice _) := (fit _ _ hT).kind
      simp [builtin, Builtin.len_, run_und hu, goInt]
    · cases h
  · rename_i t _ _ _ n _
    split at h
    · rename_i hT
      simp only [Option.some.injEq] at h; subst h
      obtain ⟨c, ec, hc⟩ := hx.one
      simp only [VR] at hc
      obtain ⟨_, cc, ev, _, _, hcc, _⟩ := hc
      rw [arr_of_list ec, arr_of_list htl, ev, hcc trivial]
      refine ⟨_, VR.mk_int _ _, fun w => ?_⟩
      have hu : P.underlying t = some (.slice _) := (fit _ _ hT).kind
      simp [builtin, Builtin.cap_, run_und hu, goInt]
    · cases h
  · rename_i t
    split at h
    · rename_i hT
      simp only [Option.some.injEq] at h; subst h
      obtain ⟨c, ec, hc⟩ := hx.one
      rw [arr_of_list ec, arr_of_list htl, hc.nils]
      refine ⟨_, VR.mk_int _ _, fun w => ?_⟩
      have hu : P.underlying t = some (.slice _) := (fit _ _ hT).kind
      simp [builtin, Builtin.cap_, run_und hu, goInt]
    · cases h
  · simp only [Option.some.injEq] at h; subst h
    obtain ⟨c, d, ec, hc, hd⟩ := hx.two
    rw [arr_of_list ec, hc.int, hd.int]
    exact ⟨_, VR.mk_int _ _, fun w => by simp [builtin, Builtin.min_, Builtin.min2]⟩
  · simp only [Option.some.injEq] at h; subst h
    obtain ⟨c, d, ec, hc, hd⟩ := hx.two
    rw [arr_of_list ec, hc.int, hd.int]
    exact ⟨_, VR.mk_int _ _, fun w => by simp [builtin, Builtin.max_, Builtin.max2]⟩
  · cases h

theorem optR_none {w : Option Value} (h : OptR μ none w) : w = none := h

/-- an operation without memory -/
theorem pure_sound (fit : Fits P T) {ρ : Operand → Option V} {ρc : Operand → Value} (hρ : ∀ x v, ρ x = some v → VR μ v (ρc x)) {o : Oper} {v : V} (h : pureOp T ρ o.op = some v) :
    ∃ cv, VR μ v cv ∧ ∀ w, (execOp ρc o).run P w = .ok (.value cv) w := by
  cases ho : o.op <;> rw [ho] at h <;> simp only [pureOp, reduceCtorEq] at h
  case move x => exact ⟨_, hρ x v h, fun w => by simp only [execOp, ho]; rfl⟩
  case assign x => exact ⟨_, hρ x v h, fun w => by simp only [execOp, ho]; rfl⟩
  case pick c a b =>
    split at h
    · rename_i hc ha hb
      simp only [Option.some.injEq] at h
      have ec := (hρ _ _ hc).bool
      rename_i cb xa xb
      refine ⟨if cb then ρc a else ρc b, ?_, fun w => ?_⟩
      · subst h; split
        · exact hρ _ _ ha
        · exact hρ _ _ hb
      · simp only [execOp, ho, ec]
        simp [asBool]
    · cases h
  case build t parts =>
    split at h
    · rename_i hT hps
      simp only [Option.map_eq_some_iff] at h
      obtain ⟨cs', hf, rfl⟩ := h
      have f := fit _ _ hT
      obtain ⟨q, z, hq, q1, q2, q3, q4, q5, q6⟩ := f.info
      obtain ⟨F, places, hu, hF, hpl⟩ := f.kind
      have hparts := evParts_sound hρ _ hps
      obtain ⟨ws', k1, k2, k3, k4⟩ := fill_sound (pl := structPlace T _) (pl' := (places.toArray[·]?)) (fun i p hp => by
        unfold structPlace at hp
        split at hp
        · rename_i ft off hfs
          split at hp
          · rename_i fi hfi
            simp only [Option.some.injEq] at hp
            subst hp
            obtain ⟨fd, e1, e2, e3⟩ := fld_get hF hfs
            obtain ⟨qq, g1, g2⟩ := places_get hpl i fd (by simpa using e1)
            obtain ⟨qf, zf, hqf, qf1, _⟩ := (fit _ _ hfi).info
            rw [e2] at g1
            obtain rfl : qq = qf := Option.some.inj (g1.symm.trans hqf)
            simp only [List.getElem?_toArray, g2, e3, qf1]
          · cases hp
        · cases hp) _ _ (q4 μ) q5 hparts hf
      refine ⟨.agg ws', by simp only [VR]; exact ⟨ws', rfl, k3, k2⟩, fun w => ?_⟩
      simp only [execOp, ho]
      refine run_value (run_build w t _ ws' ?_)
      simp only [Program.built, hq, hu, q3, hpl]
      simpa using k1
    · cases h
  case nilCheck x =>
    split at h
    · rename_i b off hx
      simp only [Option.some.injEq] at h
      subst h
      have hv := hρ _ _ hx
      have hv' := hv
      simp only [VR] at hv'
      obtain ⟨y, _, ey⟩ := hv'
      exact ⟨_, hv, fun w => by simp only [execOp, ho, ey]; rfl⟩
    · cases h
  case binOp op t x y u =>
    split at h
    · rename_i a b ha hb
      exact vbin_sound fit ho (hρ _ _ ha) (hρ _ _ hb) h
    · cases h
  case unOp op t x =>
    split at h
    · rename_i a ha
      have hv := hρ _ _ ha
      unfold vun at h
      split at h
      · simp only [Option.some.injEq] at h; subst h
        have e := hv.int
        exact ⟨_, VR.mk_int _ _, fun w => by simp only [execOp, ho, e]; exact run_value (by simp [Op.unary, Op.intArith])⟩
      · simp only [Option.some.injEq] at h; subst h
        have e := hv.int
        exact ⟨_, VR.mk_int _ _, fun w => by simp only [execOp, ho, e]; exact run_value (by simp [Op.unary, Op.intBits])⟩
      · simp only [Option.some.injEq] at h; subst h
        have e := hv.bool
        exact ⟨_, VR.mk_bool _, fun w => by simp only [execOp, ho, e]; exact run_value (by simp [Op.unary])⟩
      · cases h
    · cases h
  case convert s d x =>
    split at h
    · rename_i hS hT hx
      simp only [Option.some.injEq] at h; subst h
      have e := (hρ _ _ hx).int
      have hu : P.underlying d = some (.int _) := (fit _ _ hT).kind
      obtain ⟨ds, hs⟩ := fits_und (fit _ _ hS)
      exact ⟨_, VR.mk_int _ _, fun w => by simp only [execOp, ho, e]; exact run_value (by simp [Go.convert, run_und hu, run_und hs, Conv.intToInt])⟩
    · rename_i hS hT hx
      simp only [Option.some.injEq] at h; subst h
      have e := (hρ _ _ hx).str
      have hu : P.underlying d = some .string := (fit _ _ hT).kind
      obtain ⟨ds, hs⟩ := fits_und (fit _ _ hS)
      exact ⟨_, VR.mk_str _, fun w => by simp only [execOp, ho, e]; exact run_value (by simp [Go.convert, run_und hu, run_und hs])⟩
    · cases h
  case makeFunc fn first caps =>
    cases fn <;> simp only [pureOp, reduceCtorEq] at h
    split at h
    · rename_i hf hc
      simp only [Option.some.injEq] at h; subst h
      have hcap := evs_sound hρ _ hc
      refine ⟨_, ?_, fun w => by simp only [execOp, ho]; exact run_value rfl⟩
      simp only [VR]
      exact ⟨caps.map ρc, by rw [arr_of_list hf]; simp, by simpa using hcap⟩
    · cases h
  case slice t x lo hi mx =>
    split at h
    · rename_i hT hx hlo hhi hmx
      split at h
      · rename_i hE
        obtain ⟨q, z, hq, q1, _⟩ := (fit _ _ hE).info
        obtain ⟨cv, h1, h2⟩ := sliceV_sound (fit _ _ hT).kind hq q1 (hρ _ _ hx) (optEv_sound hρ hlo) (optEv_sound hρ hhi) (optEv_sound hρ hmx) h
        refine ⟨cv, h1, fun w => ?_⟩
        simp only [execOp, ho]
        refine run_value ?_
        simp only [Instr.sliceAt, Sem.run_bind, run_und (fit _ _ hT).kind, Result.andThen_ok]
        exact h2 w
      · cases h
    · rename_i hT hx hlo hhi hmx
      have hu : P.underlying t = some .string := (fit _ _ hT).kind
      obtain ⟨cv, h1, h2⟩ := sliceS_sound hu (optEv_sound hρ hlo) (optEv_sound hρ hhi) h
      have hm := optR_none (optEv_sound hρ hmx)
      refine ⟨cv, h1, fun w => ?_⟩
      simp only [execOp, ho, hm, (hρ _ _ hx).str]
      refine run_value ?_
      simp only [Instr.sliceAt, Sem.run_bind, run_und hu, Result.andThen_ok]
      exact h2 w
    · cases h
  case fieldAddr t x f =>
    split at h
    · rename_i hT hx
      split at h
      · rename_i ft fo hf
        split at h
        · rename_i hF
          split at h
          · cases h
          · rename_i hz
            simp only [Option.some.injEq] at h; subst h
            obtain ⟨F, places, hu, hFs, _⟩ := (fit _ _ hT).kind
            obtain ⟨fd, e1, e2, e3⟩ := fld_get hFs hf
            obtain ⟨q, z, hq, q1, _⟩ := (fit _ _ hF).info
            have hv := hρ _ _ hx
            simp only [VR] at hv
            obtain ⟨y, hy, ey⟩ := hv
            refine ⟨.pointer (some ⟨y.B, y.o + (_ + fo), none⟩), by simp only [VR]; exact ⟨y, hy, rfl⟩, fun w => ?_⟩
            simp only [execOp, ho, ey]
            refine run_value ?_
            have hq' : P.info? fd.type = some q := by rw [e2]; exact hq
            simp only [Instr.fieldAt, Sem.run_bind, run_und hu, Result.andThen_ok, e1, Instr.sureAddr, Sem.run_pure, fieldPlace, run_size hq']
            rw [if_neg (by rw [q1]; exact hz)]
            simp [add_at, e3, Nat.add_assoc]
        · cases h
      · cases h
    · cases h
  case indexAddr t x ix =>
    split at h
    · rename_i hT hx hi
      split at h
      · rename_i hE
        split at h
        · rename_i hb
          simp only [Option.some.injEq] at h; subst h
          have hu : P.underlying t = some (.slice _) := (fit _ _ hT).kind
          obtain ⟨q, z, hq, q1, _⟩ := (fit _ _ hE).info
          have hv := hρ _ _ hx
          simp only [VR] at hv
          obtain ⟨a, c, ey, k1, k2, k3, k45⟩ := hv
          rcases k45 with ⟨_, q2⟩ | ⟨y, oo, hy, rfl, k4, k5⟩
          · omega
          have hoff := k5 (by omega)
          subst hoff
          refine ⟨.pointer (some ⟨y.B, y.o + (oo + _ * _), none⟩), by simp only [VR]; exact ⟨y, hy, rfl⟩, fun w => ?_⟩
          simp only [execOp, ho, ey, (hρ _ _ hi).int]
          refine run_value ?_
          simp only [Instr.indexAt, asIntOf, Sem.run_bind, run_und hu, Result.andThen_ok, Sem.run_pure]
          simp [hb, run_size hq, q1, add_at, Nat.add_assoc]
        · cases h
      · cases h
    · rename_i hT hx hi
      split at h
      · rename_i hE
        split at h
        · rename_i hb
          simp only [Option.some.injEq] at h; subst h
          have hu : P.underlying t = some (.array _ _) := (fit _ _ hT).kind
          obtain ⟨q, z, hq, q1, _⟩ := (fit _ _ hE).info
          have hv := hρ _ _ hx
          simp only [VR] at hv
          obtain ⟨y, hy, ey⟩ := hv
          refine ⟨.pointer (some ⟨y.B, y.o + (_ + _ * _), none⟩), by simp only [VR]; exact ⟨y, hy, rfl⟩, fun w => ?_⟩
          simp only [execOp, ho, ey, (hρ _ _ hi).int]
          refine run_value ?_
          simp only [Instr.indexAt, asIntOf, Sem.run_bind, run_und hu, Result.andThen_ok, Sem.run_pure, Instr.sureAddr]
          simp [hb, run_size hq, q1, add_at, Nat.add_assoc]
        · cases h
      · cases h
    · cases h
  case index t x ix =>
    split at h
    · rename_i hT hx hi
      split at h
      · rename_i h0
        simp only [Option.map_eq_some_iff] at h
        obtain ⟨b, hb, rfl⟩ := h
        have hu : P.underlying t = some .string := (fit _ _ hT).kind
        refine ⟨_, VR.mk_int _ _, fun w => ?_⟩
        simp only [execOp, ho, (hρ _ _ hx).str, (hρ _ _ hi).int]
        refine run_value ?_
        simp only [Instr.index, asIntOf, Sem.run_bind, run_und hu, Result.andThen_ok, Sem.run_pure]
        simp [h0, hb]
      · cases h
    · cases h
  case extract x i =>
    split at h
    · rename_i hx
      have hv := hρ _ _ hx
      simp only [VR] at hv
      obtain ⟨cw, ey, hc⟩ := hv
      obtain ⟨u, hu, hr⟩ := hc.get h
      refine ⟨u, hr, fun w => ?_⟩
      simp only [execOp, ho, ey]
      refine run_value ?_
      simp only [Array.getElem?_toList] at hu
      simp [Instr.extract, hu]
    · cases h
  case call c =>
    obtain ⟨callee, xs, ts⟩ := c
    cases callee <;> simp only [pureOp, reduceCtorEq] at h
    rename_i b
    split at h
    · rename_i hx
      have hxs := evs_sound hρ _ hx
      obtain ⟨cv, h1, h2⟩ := builtinP_sound (cs := xs.map ρc) fit (by simpa using hxs) h o.type (xs.map fun | .const _ => true | _ => false)
      exact ⟨cv, h1, fun w => run_builtin ho (h2 w)⟩
    · cases h

end Go.Proofs.Ytjageapgbpdlhaa.VM
