/- THE SMALL MACHINE, part J: an operation, whatever it is. -/
import Derived.Test.YtjageapgbpdlhaaVmI
namespace Go.Proofs.Ytjageapgbpdlhaa.VM
open Go
set_option linter.unusedVariables false
set_option linter.unusedSimpArgs false

variable {P : Program} {T : Tab} {μ : Mu}

abbrev Rel := Nat → List V → Heap → V → Heap → Prop

/-- a function with a body of its own -/
def Callable (P : Program) (f : Nat) : Prop := ∃ fn, P.funcs[f]? = some fn ∧ fn.body.isNone = false ∧ (fn.name == "runtime.NumGoroutine") = false

/-- what a call does -/
def Call (P : Program) : Rel := fun f args H v H' =>
  Callable P f ∧ ∀ (μ : Mu) (w : World) (cargs : Array Value), Sim μ H w → VRs μ args cargs.toList →
    Calls P f cargs w fun e w' => ∃ cv μ', e = .returned cv ∧ VR μ' v cv ∧ Sim μ' H' w' ∧ Tr μ H w μ' H' w'

def Step (P : Program) (T : Tab) (e : Env) (h : Heap) (o : Op) (v : V) (h' : Heap) : Prop :=
  (pureOp T e.ev o = some v ∧ h' = h) ∨ memOp T e.ev h o = some (v, h') ∨
  (∃ f xs ts g caps vs, o = .call { callee := .value f, args := xs, argTypes := ts } ∧ e.ev f = some (.fn g caps) ∧ evs e.ev xs.toList = some vs ∧ Call P g (vs ++ caps) h v h')

/-- operations that may come to memory -/
def touches : Op → Bool
  | .move _ | .assign _ | .pick .. | .build .. | .nilCheck _ | .binOp .. | .unOp .. | .makeFunc .. | .slice .. | .fieldAddr .. | .indexAddr .. | .index .. | .extract .. => false
  | .call { callee := .builtin .len, .. } | .call { callee := .builtin .cap, .. } | .call { callee := .builtin .min, .. } | .call { callee := .builtin .max, .. } => false
  | _ => true

theorem mem_touches {ρ : Operand → Option V} {h : Heap} {o : Op} {r : V × Heap} (hm : memOp T ρ h o = some r) : touches o = true := by
  cases o <;> first | rfl | (simp only [memOp, reduceCtorEq] at hm) | skip
  rename_i c
  obtain ⟨callee, xs, ts⟩ := c
  cases callee <;> first | rfl | skip
  rename_i b
  cases b <;> first | rfl | (simp only [memOp, reduceCtorEq] at hm)

theorem evs_congr {ρ ρ' : Operand → Option V} : ∀ (xs : List Operand), (∀ x ∈ xs, ρ x = ρ' x) → evs ρ xs = evs ρ' xs
  | [], _ => rfl
  | x :: xs, h => by simp only [evs]; rw [h x (by simp), evs_congr xs (fun y hy => h y (by simp [hy]))]
theorem evParts_congr {ρ ρ' : Operand → Option V} : ∀ (xs : List (Nat × Operand)), (∀ x ∈ xs.map (·.2), ρ x = ρ' x) → evParts ρ xs = evParts ρ' xs
  | [], _ => rfl
  | (i, x) :: xs, h => by simp only [evParts]; rw [h x (by simp), evParts_congr xs (fun y hy => h y (by simp at hy ⊢; exact .inr hy))]
theorem optEv_congr {ρ ρ' : Operand → Option V} {x : Option Operand} (h : ∀ y, x = some y → ρ y = ρ' y) : optEv ρ x = optEv ρ' x := by
  cases x with
  | none => rfl
  | some y => simp only [optEv, h y rfl]

theorem pure_congr {ρ ρ' : Operand → Option V} {o : Op} (h : ∀ x ∈ o.operands, ρ x = ρ' x) : pureOp T ρ o = pureOp T ρ' o := by
  cases o <;> simp only [Op.operands] at h <;> (try rfl)
  case move x => simpa [pureOp] using h
  case assign x => simpa [pureOp] using h
  case pick a b c => simp only [pureOp, h a (by simp), h b (by simp), h c (by simp)]
  case build t ps => simp only [pureOp]; rw [evParts_congr ps.toList (fun x hx => h x (by simpa using hx))]
  case nilCheck x => simp only [pureOp, h x (by simp)]
  case binOp op t x y u => simp only [pureOp, h x (by simp), h y (by simp)]
  case unOp op t x => simp only [pureOp, h x (by simp)]
  case convert s d x => simp only [pureOp, h x (by simp)]
  case makeFunc f first caps =>
    cases f <;> (try rfl)
    simp only [pureOp]; rw [evs_congr caps.toList (fun x hx => h x (by simp at hx ⊢; exact .inr hx))]
  case slice t x lo hi mx =>
    simp only [pureOp, h x (by simp), optEv_congr (x := lo) (fun y hy => h y (by subst hy; simp)), optEv_congr (x := hi) (fun y hy => h y (by subst hy; simp)), optEv_congr (x := mx) (fun y hy => h y (by subst hy; simp))]
  case fieldAddr t x f => simp only [pureOp, h x (by simp)]
  case indexAddr t x y => simp only [pureOp, h x (by simp), h y (by simp)]
  case index t x y => simp only [pureOp, h x (by simp), h y (by simp)]
  case extract x i => simp only [pureOp, h x (by simp)]
  case call c =>
    obtain ⟨callee, xs, ts⟩ := c
    cases callee <;> (try rfl)
    simp only [pureOp]
    rw [evs_congr xs.toList (fun x hx => h x (by simpa [Call.operands] using hx))]

theorem mem_congr {ρ ρ' : Operand → Option V} {hp : Heap} {o : Op} (h : ∀ x ∈ o.operands, ρ x = ρ' x) : memOp T ρ hp o = memOp T ρ' hp o := by
  cases o <;> simp only [Op.operands] at h <;> (try rfl)
  case box t x => simp only [memOp, h x (by simp)]
  case buildSlice t n ps => simp only [memOp]; rw [evParts_congr ps.toList (fun x hx => h x (by simpa using hx))]
  case load t x => simp only [memOp, h x (by simp)]
  case store t x y => simp only [memOp, h x (by simp), h y (by simp)]
  case convert s d x => simp only [memOp, h x (by simp)]
  case makeSlice t x y => simp only [memOp, h x (by simp), h y (by simp)]
  case lookup t x y c => cases c <;> simp only [memOp, h x (by simp), h y (by simp)]
  case makeMap t r => cases r <;> rfl
  case mapUpdate t x y z => simp only [memOp, h x (by simp), h y (by simp), h z (by simp)]
  case call c =>
    obtain ⟨callee, xs, ts⟩ := c
    cases callee <;> (try rfl)
    rename_i b
    cases b <;> (try rfl) <;> (simp only [memOp]; rw [evs_congr xs.toList (fun x hx => h x (by simpa [Call.operands] using hx))])

/-- what an operation reads, at the two machines -/
def Looks (μ : Mu) (e : Env) (a : Act) (o : Op) : Prop := ∀ x ∈ o.operands, ∀ v, e.ev x = some v → VR μ v (a.eval x)

open Classical in
theorem looks_rho {e : Env} {a : Act} {o : Op} (hl : Looks μ e a o) : ∃ ρ : Operand → Option V, (∀ x ∈ o.operands, e.ev x = ρ x) ∧ ∀ x v, ρ x = some v → VR μ v (a.eval x) :=
  ⟨fun x => if x ∈ o.operands then e.ev x else none, fun x hx => by simp [hx], fun x v h => by
    by_cases hx : x ∈ o.operands
    · simp only [hx, if_true] at h; exact hl x hx v h
    · simp [hx] at h⟩

theorem upon_nx {μ' : Mu} {o : Oper} {a : Act} {next : Act → World → Prop} {Q : Exit → Act → World → Prop} {v : V} {nx : Next} {w' : World} (h : Nx μ' v nx) (hn : ∀ cv, VR μ' v cv → next (a.put o.dst cv) w') : o.upon P a next Q (.ok nx w') := by
  rcases h with ⟨cv, rfl, hv⟩ | ⟨rfl, rfl⟩
  · exact hn cv hv
  · exact hn undef VR.undef

theorem op_pure (fit : Fits P T) {e : Env} {a : Act} {o : Oper} {v : V} (hl : Looks μ e a o.op) (h : pureOp T e.ev o.op = some v) : ∃ cv, VR μ v cv ∧ ∀ w, (execOp a.eval o).run P w = .ok (.value cv) w := by
  obtain ⟨ρ, h1, h2⟩ := looks_rho hl
  rw [pure_congr h1] at h
  exact pure_sound fit h2 h

theorem op_sim (fit : Fits P T) {e : Env} {a : Act} {o : Oper} {v : V} {h h' : Heap} {w : World} (s : Sim μ h w) (hl : Looks μ e a o.op) (st : Step P T e h o.op v h')
    {next : Act → World → Prop} {Q : Exit → Act → World → Prop} (hn : ∀ cv w' μ', VR μ' v cv → Sim μ' h' w' → Tr μ h w μ' h' w' → next (a.put o.dst cv) w') : o.wp P a w next Q := by
  obtain ⟨ρ, h1, h2⟩ := looks_rho hl
  rcases st with ⟨hp, rfl⟩ | hm | ⟨f, xs, ts, g, caps, vs, ho, hf, hxs, hc⟩
  · obtain ⟨cv, k1, k2⟩ := op_pure fit hl hp
    unfold Oper.wp
    rw [k2 w]
    exact hn cv w μ k1 s (Tr.refl _ _ _)
  · rw [mem_congr h1] at hm
    obtain ⟨nx, w', μ', k1, k2, k3, k4⟩ := mem_sound fit s h2 hm
    unfold Oper.wp
    rw [k1]
    exact upon_nx k2 (fun cv hv => hn cv w' μ' hv k3 k4)
  · obtain ⟨⟨fn, g1, g2, g3⟩, hcall⟩ := hc
    have hops : ∀ x ∈ #[f] ++ xs, x ∈ o.op.operands := fun x hx => by rw [ho]; simpa [Op.operands, Call.operands] using hx
    have hfv := hl f (hops f (by simp)) _ hf
    simp only [VR] at hfv
    obtain ⟨cw, ef, hcw⟩ := hfv
    have hxs' : VRs μ vs (xs.toList.map a.eval) := by
      have : evs ρ xs.toList = some vs := by
        rw [← hxs]; exact (evs_congr _ (fun x hx => h1 x (hops x (by simp at hx ⊢; exact .inr hx)))).symm
      exact evs_sound h2 _ this
    have hargs : VRs μ (vs ++ caps) ((xs.map a.eval ++ cw).toList) := by simpa using hxs'.append hcw
    have hrun : (execOp a.eval o).run P w = .ok (.enter g (xs.map a.eval ++ cw)) w := by
      simp only [execOp, ho, resolve, Deferred.ofValue, ef, Sem.run_bind, Sem.run_pure, Result.andThen_ok, invoke, callFunc, run_program, g1, g2, g3]
      simp
    unfold Oper.wp
    rw [hrun]
    refine (hcall μ w _ s hargs).mono ?_
    rintro e' w' ⟨cv, μ', rfl, q1, q2, q3⟩
    exact hn cv w' μ' q1 q2 q3

/-- the two machines' temporaries -/
def EnvR (μ : Mu) (e : Env) (tmps : Array Value) : Prop := VRs μ e tmps.toList

theorem EnvR.looks {e : Env} {a : Act} (h : EnvR μ e a.tmps) (o : Op) : Looks μ e a o := fun x _ v hv => by
  cases x with
  | tmp t =>
    obtain ⟨w, hw, hr⟩ := VRs.get h hv
    simp only [Array.getElem?_toList] at hw
    simp only [Act.eval, Array.getD_eq_getD_getElem?, hw, Option.getD_some]
    exact hr
  | const c => exact VR.of_const c hv
  | func f =>
    simp only [Env.ev, Option.some.injEq] at hv
    subst hv
    simp only [VR, Act.eval]
    exact ⟨#[], rfl, by simp [VRs]⟩
  | global g => simp [Env.ev] at hv

def Env.put (e : Env) : Option Nat → V → Env
  | some d, v => e.set d v
  | none, _ => e

theorem EnvR.put {e : Env} {a : Act} (h : EnvR μ e a.tmps) (d : Option Nat) {v : V} {cv : Value} (hv : VR μ v cv) : EnvR μ (e.put d v) (a.put d cv).tmps := by
  cases d with
  | none => exact h
  | some d =>
    simp only [EnvR, Env.put, Act.put, Array.toList_setIfInBounds]
    exact VRs.set h d hv

/-- what a guard says -/
def guardOf (ops : Array Oper) (e : Env) (o : Oper) : Bool :=
  match o.guard with
  | none => true
  | some (j, want) => match ((ops[j]?).bind (·.dst)).bind (e[·]?) with
    | some (.bool b) => b == want
    | _ => false

theorem VR.isBool {v : V} {b : Bool} (h : VR μ v (.bool b)) : v = .bool b := by
  cases v <;> simp only [VR] at h
  case bool => cases h; rfl
  case ptr => obtain ⟨_, _, h⟩ := h; cases h
  case slc => obtain ⟨_, _, h, _⟩ := h; cases h
  case map => obtain ⟨_, _, h⟩ := h; cases h
  case fn => obtain ⟨_, h, _⟩ := h; cases h
  case agg => obtain ⟨_, h, _⟩ := h; cases h
  case tup => obtain ⟨_, h, _⟩ := h; cases h
  all_goals cases h

/-- the temporary that a guard looks at -/
def guardTmp (ops : Array Oper) (o : Oper) : Option Nat :=
  match o.guard with
  | none => none
  | some (j, _) => (ops[j]?).bind (·.dst)

theorem guard_sim {ops : Array Oper} {e : Env} {a : Act} {o : Oper} (h : ∀ t, guardTmp ops o = some t → ∃ v cv, e[t]? = some v ∧ a.tmps[t]? = some cv ∧ VR μ v cv) : Region.wanted o (yielded ops a.tmps) = guardOf ops e o := by
  unfold Region.wanted guardOf
  cases hg : o.guard with
  | none => rfl
  | some jw =>
    obtain ⟨j, want⟩ := jw
    simp only
    unfold yielded
    cases hd : (ops[j]?).bind (·.dst) with
    | none => rfl
    | some t =>
      obtain ⟨v, cv, h1, h2, h3⟩ := h t (by simp [guardTmp, hg, hd])
      simp only [Option.bind_some, h1, h2]
      by_cases hb : ∃ b, v = .bool b
      · obtain ⟨b, rfl⟩ := hb
        rw [h3.bool]
        simp
      · have hb' : ∀ b, cv ≠ .bool b := fun b e => by subst e; exact hb ⟨b, h3.isBool⟩
        cases cv <;> first | exact absurd rfl (hb' _) | (cases v <;> first | exact absurd ⟨_, rfl⟩ hb | rfl)

theorem EnvR.guard {ops : Array Oper} {e : Env} {a : Act} (h : EnvR μ e a.tmps) (hlt : ∀ o t, guardTmp ops o = some t → t < e.length) (o : Oper) : Region.wanted o (yielded ops a.tmps) = guardOf ops e o := by
  refine guard_sim (μ := μ) fun t ht => ?_
  have hl := hlt o t ht
  obtain ⟨w, hw, hr⟩ := VRs.get h (i := t) (v := e[t]) (by simp [hl])
  exact ⟨e[t], w, by simp [hl], by simpa using hw, hr⟩

theorem guard_beyond {ops : Array Oper} {e : Env} {a : Act} (h : EnvR μ e a.tmps) (o : Oper) : Region.wanted o (yielded ops a.tmps) = guardOf ops e o := by
  have hlen : a.tmps.size = e.length := by simpa using VRs.length h
  by_cases hh : ∃ t, guardTmp ops o = some t ∧ e.length ≤ t
  · obtain ⟨t, ht, hge⟩ := hh
    unfold guardTmp at ht
    unfold Region.wanted guardOf
    cases hg : o.guard with
    | none => rfl
    | some jw =>
      obtain ⟨j, want⟩ := jw
      rw [hg] at ht
      simp only at ht ⊢
      unfold yielded
      rw [ht]
      simp only [Option.bind_some]
      rw [List.getElem?_eq_none hge, Array.getElem?_eq_none (by omega)]
      rfl
  · refine guard_sim (μ := μ) fun t ht => ?_
    have hl : t < e.length := by
      apply Nat.lt_of_not_le
      intro hge
      exact hh ⟨t, ht, hge⟩
    obtain ⟨w, hw, hr⟩ := VRs.get h (i := t) (v := e[t]) (by simp [hl])
    exact ⟨e[t], w, by simp [hl], by simpa using hw, hr⟩

end Go.Proofs.Ytjageapgbpdlhaa.VM
