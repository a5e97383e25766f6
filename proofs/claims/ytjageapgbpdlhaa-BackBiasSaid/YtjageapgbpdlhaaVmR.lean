/- THE SMALL MACHINE, part R: the same with its temporaries as a function; what the proofs of the functions speak of. -/
import Derived.Test.YtjageapgbpdlhaaVmN
namespace Go.Proofs.Ytjageapgbpdlhaa.VM
open Go
set_option linter.unusedVariables false
set_option linter.unusedSimpArgs false

variable {P : Program} {T : Tab}

abbrev Rho := Nat → V
def Rho.ev (ρ : Rho) : Operand → Option V
  | .tmp t => some (ρ t)
  | .const v => V.of v
  | .func f => some (.fn f [])
  | .global _ => none
def Rho.put (ρ : Rho) (d : Option Nat) (v : V) : Rho :=
  match d with
  | some d => fun t => if t = d then v else ρ t
  | none => ρ

def stepF (T : Tab) (ρ : Operand → Option V) (h : Heap) (op : Op) : Option (V × Heap) :=
  match pureOp T ρ op with
  | some v => some (v, h)
  | none => memOp T ρ h op

def guardR (ops : Array Oper) (ρ : Rho) (o : Oper) : Bool :=
  match o.guard with
  | none => true
  | some (j, want) => match (ops[j]?).bind (·.dst) with
    | some d => match ρ d with
      | .bool b => b == want
      | _ => false
    | none => false

/-- one operation; z: what must hold of the memory behind a call -/
def wqO (P : Program) (T : Tab) (z : Heap → Prop) (op : Op) (ρ : Rho) (h : Heap) (K : V → Heap → Prop) : Prop :=
  match op with
  | .call { callee := .value f, args := xs, .. } => match ρ.ev f, evs ρ.ev xs.toList with
    | some (.fn g caps), some vs => ∃ v h', Call P g (vs ++ caps) h v h' ∧ z h' ∧ K v h'
    | _, _ => False
  | op => match stepF T ρ.ev h op with
    | some (v, h') => K v h'
    | none => False

def wqL (P : Program) (T : Tab) (ops : Array Oper) : List Oper → (Rho → Heap → Prop) → Rho → Heap → Prop
  | [], Q, ρ, h => Q ρ h
  | o :: rest, Q, ρ, h =>
    if guardR ops ρ o = true then wqO P T (fun _ => True) o.op ρ h fun v h' => wqL P T ops rest Q (ρ.put o.dst v) h'
    else wqL P T ops rest Q (ρ.put o.dst V.undef) h

def wqD (P : Program) (T : Tab) (ops : Array Oper) : Nat → List Oper → (Rho → Heap → Prop) → Rho → Heap → Prop
  | _, [], Q, ρ, h => Q ρ h
  | k, o :: rest, Q, ρ, h =>
    if guardR ops ρ o = true then wqO P T (fun h' => h <+: h' ∨ (h.length ≤ h'.length ∧ barrier ops k = true)) o.op ρ h fun v h' => wqD P T ops (k + 1) rest Q (ρ.put o.dst v) h'
    else wqD P T ops (k + 1) rest Q (ρ.put o.dst V.undef) h

/-- a load that may yet be done, and what it comes to -/
structure PendR where
  ρ : Rho
  op : Op
  v : V
def PendR.holds (T : Tab) (h : Heap) (p : PendR) : Prop := memOp T p.ρ.ev h p.op = some (p.v, h)

/-- the same where loads may be late -/
def wqE (P : Program) (T : Tab) (ops : Array Oper) : Nat → List Oper → List PendR → (Rho → Heap → Prop) → Rho → Heap → Prop
  | _, [], _, Q, ρ, h => Q ρ h
  | k, o :: rest, pe, Q, ρ, h =>
    if guardR ops ρ o = true then wqO P T (fun h' => h <+: h' ∨ (h.length ≤ h'.length ∧ barrier ops k = true)) o.op ρ h fun v h' => (∀ p ∈ pe, p.holds T h') ∧ (lateAt ops k = true → v.under h'.length = true) ∧ wqE P T ops (k + 1) rest (if lateAt ops k = true then ⟨ρ, o.op, v⟩ :: pe else pe) Q (ρ.put o.dst v) h'
    else wqE P T ops (k + 1) rest pe Q (ρ.put o.dst V.undef) h

def noLate (ops : Array Oper) : Bool := (List.range ops.size).all fun k => !lateAt ops k

theorem wqO_monoR {z : Heap → Prop} {op : Op} {ρ : Rho} {h : Heap} {K K' : V → Heap → Prop} (hk : ∀ v h', K v h' → K' v h') (hw : wqO P T z op ρ h K) : wqO P T z op ρ h K' := by
  unfold wqO at hw ⊢
  split at hw
  · split at hw
    · obtain ⟨v, h', a, b, c⟩ := hw; exact ⟨v, h', a, b, hk _ _ c⟩
    · exact hw.elim
  · split at hw
    · exact hk _ _ hw
    · exact hw.elim

theorem noLate_at {ops : Array Oper} (h : noLate ops = true) (k : Nat) : lateAt ops k = false := by
  by_cases hk : k < ops.size
  · simp only [noLate, List.all_eq_true, List.mem_range] at h
    simpa using h k hk
  · unfold lateAt
    simp [Array.getElem?_eq_none (Nat.le_of_not_lt hk)]

theorem wqE_of {ops : Array Oper} (hn : noLate ops = true) {Q : Rho → Heap → Prop} : ∀ (l : List Oper) (k : Nat) (ρ : Rho) (h : Heap), wqD P T ops k l Q ρ h → wqE P T ops k l [] Q ρ h
  | [], _, _, _, hw => hw
  | o :: rest, k, ρ, h, hw => by
    simp only [wqD] at hw
    simp only [wqE]
    split
    · rename_i hg
      rw [if_pos hg] at hw
      refine wqO_monoR (fun v h' hk => ?_) hw
      refine ⟨fun p hp => by simp at hp, ?_, ?_⟩
      · intro hl; rw [noLate_at hn k] at hl; cases hl
      · rw [if_neg (by rw [noLate_at hn k]; simp)]
        exact wqE_of hn rest (k + 1) _ _ hk
    · rename_i hg
      rw [if_neg hg] at hw
      exact wqE_of hn rest (k + 1) _ _ hw

def Th (next : Rho → Heap → Prop) (Q : Exit → Rho → Heap → Prop) : Exit → Rho → Heap → Prop
  | .normal, ρ, h => next ρ h
  | x, ρ, h => Q x ρ h
def Bk (id : Nat) (Q : Exit → Rho → Heap → Prop) : Exit → Rho → Heap → Prop
  | .exit id', ρ, h => if id' = id then Q .normal ρ h else Q (.exit id') ρ h
  | x, ρ, h => Q x ρ h

def roundsR (f : (Exit → Rho → Heap → Prop) → Rho → Heap → Prop) (Q : Exit → Rho → Heap → Prop) : Nat → Rho → Heap → Prop
  | 0, _, _ => False
  | n + 1, ρ, h => f (Th (roundsR f Q n) Q) ρ h

def wq (P : Program) (T : Tab) : Code → (Exit → Rho → Heap → Prop) → Rho → Heap → Prop
  | .skip, Q, ρ, h => Q .normal ρ h
  | .label _, Q, ρ, h => Q .normal ρ h
  | .region _ ops false, Q, ρ, h => wqL P T ops ops.toList (Q .normal) ρ h
  | .region _ ops true, Q, ρ, h => wqE P T ops 0 ops.toList [] (Q .normal) ρ h
  | .seq a b, Q, ρ, h => wq P T a (Th (wq P T b Q) Q) ρ h
  | .cond c x y, Q, ρ, h => match ρ.ev c with
    | some (.bool t) => if t = true then wq P T x Q ρ h else wq P T y Q ρ h
    | _ => False
  | .block id c, Q, ρ, h => wq P T c (Bk id Q) ρ h
  | .loop c, Q, ρ, h => ∃ n, roundsR (wq P T c) Q n ρ h
  | .exit id, Q, ρ, h => Q (.exit id) ρ h
  | .goto l, Q, ρ, h => Q (.goto l) ρ h
  | .ret, Q, ρ, h => Q .ret ρ h
  | _, _, _, _ => False

/-- operations that leave what lay there -/
def quietOp : Op → Bool
  | .store .. | .mapUpdate .. => false
  | .call { callee := .builtin b, .. } => match b with
    | .len | .cap | .min | .max => true
    | _ => false
  | _ => true

def inB (n : Nat) : Operand → Bool
  | .tmp t => decide (t < n)
  | _ => true

def operOk (n : Nat) (ops : Array Oper) (o : Oper) : Bool :=
  o.op.operands.all (inB n) && (match o.dst with | some d => decide (d < n) | none => true) &&
  (match o.guard with | none => true | some (j, _) => match (ops[j]?).bind (·.dst) with | some d => decide (d < n) | none => true)

def isCall : Op → Bool
  | .call { callee := .value _, .. } => true
  | _ => false

/-- all temporaries lie in range; each statement whose order is open may be taken in the text's order -/
def codeOk (n : Nat) : Code → Bool
  | .region _ ops d => ops.toList.all (operOk n ops) && (!d || (drawOk ops && ops.toList.zipIdx.all fun (o, k) => isCall o.op || quietOp o.op || barrier ops k))
  | .seq a b => codeOk n a && codeOk n b
  | .cond c a b => inB n c && codeOk n a && codeOk n b
  | .block _ c => codeOk n c
  | .loop c => codeOk n c
  | _ => true

structure Agree (n : Nat) (ρ : Rho) (e : Env) : Prop where
  len : e.length = n
  tmp : ∀ t, t < n → e[t]? = some (ρ t)

theorem Agree.ev {n : Nat} {ρ : Rho} {e : Env} (h : Agree n ρ e) {x : Operand} (hx : inB n x = true) : e.ev x = ρ.ev x := by
  cases x with
  | tmp t => simp only [inB, decide_eq_true_eq] at hx; exact h.tmp t hx
  | _ => rfl

theorem Agree.put {n : Nat} {ρ : Rho} {e : Env} (h : Agree n ρ e) {d : Option Nat} (hd : ∀ k, d = some k → k < n) (v : V) : Agree n (ρ.put d v) (e.put d v) := by
  cases d with
  | none => exact h
  | some k =>
    have hk := hd k rfl
    refine ⟨by simp [Env.put, h.len], fun t ht => ?_⟩
    simp only [Env.put, Rho.put, List.getElem?_set]
    by_cases htk : t = k
    · subst htk; simp [h.len, ht]
    · have htk' : ¬ k = t := fun e => htk e.symm
      simp only [htk, htk', if_false]
      exact h.tmp t ht

theorem Agree.guard {n : Nat} {ρ : Rho} {e : Env} (h : Agree n ρ e) {ops : Array Oper} {o : Oper} (ho : operOk n ops o = true) : guardOf ops e o = guardR ops ρ o := by
  simp only [operOk, Bool.and_eq_true] at ho
  have hg := ho.2
  unfold guardOf guardR
  cases hgo : o.guard with
  | none => rfl
  | some jw =>
    obtain ⟨j, want⟩ := jw
    rw [hgo] at hg
    simp only at hg ⊢
    cases hd : (ops[j]?).bind (·.dst) with
    | none => rfl
    | some d =>
      rw [hd] at hg
      simp only [decide_eq_true_eq] at hg
      simp only [Option.bind_some, h.tmp d hg]
      cases ρ d <;> rfl

theorem stepF_step {n : Nat} {ρ : Rho} {e : Env} (ha : Agree n ρ e) {op : Op} (ho : op.operands.all (inB n) = true) {h h' : Heap} {v : V} (hs : stepF T ρ.ev h op = some (v, h')) : Step P T e h op v h' := by
  have hx : ∀ x ∈ op.operands, e.ev x = ρ.ev x := fun x hx => ha.ev (by have := Array.all_eq_true_iff_forall_mem.1 ho x hx; exact this)
  unfold stepF at hs
  split at hs
  · rename_i u hu
    simp only [Option.some.injEq, Prod.mk.injEq] at hs
    obtain ⟨rfl, rfl⟩ := hs
    exact .inl ⟨by rw [pure_congr hx]; exact hu, rfl⟩
  · exact .inr (.inl (by rw [mem_congr hx]; exact hs))

theorem storeN_len {h h' : Heap} {b off : Nat} {vs : List V} (hs : h.storeN b off vs = some h') : h'.length = h.length := by
  unfold Heap.storeN at hs
  split at hs
  · split at hs
    · simp only [Option.some.injEq] at hs; subst hs; simp
    · cases hs
  · cases hs

theorem append_grow {e : TI} {s v : V} {n : Nat} {news : List V} {h h' : Heap} (hm : appendV e s n news h = some (v, h')) : h.length ≤ h'.length := by
  unfold appendV at hm
  split at hm
  · cases hm
  split at hm
  · split at hm
    · simp only [Option.some.injEq, Prod.mk.injEq] at hm; rw [← hm.2]; exact Nat.le_refl _
    · split at hm
      · simp only [Option.some.injEq, Prod.mk.injEq] at hm; rw [← hm.2]; simp
      · cases hm
  · split at hm
    · cases hm
    split at hm
    · split at hm
      · simp only [Option.some.injEq, Prod.mk.injEq] at hm; rw [← hm.2]; exact Nat.le_refl _
      · simp only [Option.map_eq_some_iff, Prod.mk.injEq] at hm
        obtain ⟨h1, hs, _, rfl⟩ := hm
        exact Nat.le_of_eq (storeN_len hs).symm
    · split at hm
      · split at hm
        · split at hm
          · simp only [Option.some.injEq, Prod.mk.injEq] at hm; rw [← hm.2]; simp
          · split at hm
            · simp only [Option.some.injEq, Prod.mk.injEq] at hm; rw [← hm.2]; simp
            · cases hm
        · cases hm
      · cases hm
  · cases hm

theorem mem_grow {ρ : Operand → Option V} {h h' : Heap} {op : Op} {v : V} (hm : memOp T ρ h op = some (v, h')) : h.length ≤ h'.length := by
  unfold memOp at hm
  repeat' (split at hm)
  all_goals first
    | (cases hm; done)
    | (simp only [Option.some.injEq, Prod.mk.injEq] at hm; obtain ⟨_, rfl⟩ := hm; simp; done)
    | (simp only [Option.map_eq_some_iff, Prod.mk.injEq] at hm; obtain ⟨x, hs, _, rfl⟩ := hm; first | exact Nat.le_refl _ | exact Nat.le_of_eq (storeN_len hs).symm)
    | exact append_grow hm
    | skip
  all_goals
    unfold copyV at hm
    repeat' (split at hm)
    all_goals first
      | (cases hm; done)
      | (dsimp only at hm; split at hm
         · simp only [Option.some.injEq, Prod.mk.injEq] at hm; obtain ⟨_, rfl⟩ := hm; exact Nat.le_refl _
         · split at hm
           · split at hm
             · rename_i hs; simp only [Option.some.injEq, Prod.mk.injEq] at hm; obtain ⟨_, rfl⟩ := hm; exact Nat.le_of_eq (storeN_len hs).symm
             · cases hm
           · cases hm)

theorem mem_quiet {ρ : Operand → Option V} {h h' : Heap} {op : Op} {v : V} (hq : quietOp op = true) (hm : memOp T ρ h op = some (v, h')) : h <+: h' := by
  unfold memOp at hm
  repeat' (split at hm)
  all_goals first
    | (cases hm; done)
    | (cases hq; done)
    | (simp only [Option.some.injEq, Prod.mk.injEq] at hm; obtain ⟨_, rfl⟩ := hm; first | exact List.prefix_refl _ | exact List.prefix_append ..)
    | (simp only [Option.map_eq_some_iff, Prod.mk.injEq] at hm; obtain ⟨x, hs, _, rfl⟩ := hm; exact List.prefix_refl _)

theorem stepF_grow {ρ : Operand → Option V} {h h' : Heap} {op : Op} {v : V} (hs : stepF T ρ h op = some (v, h')) : h.length ≤ h'.length := by
  unfold stepF at hs
  split at hs
  · simp only [Option.some.injEq, Prod.mk.injEq] at hs; rw [← hs.2]; exact Nat.le_refl _
  · exact mem_grow hs

theorem stepF_quiet {ρ : Operand → Option V} {h h' : Heap} {op : Op} {v : V} (hq : quietOp op = true) (hs : stepF T ρ h op = some (v, h')) : h <+: h' := by
  unfold stepF at hs
  split at hs
  · simp only [Option.some.injEq, Prod.mk.injEq] at hs; rw [← hs.2]; exact List.prefix_refl _
  · exact mem_quiet hq hs

theorem wqO_step {n : Nat} {ρ : Rho} {e : Env} (ha : Agree n ρ e) {op : Op} (ho : op.operands.all (inB n) = true) {z : Heap → Prop} {h : Heap} {K : V → Heap → Prop} (hw : wqO P T z op ρ h K) :
    ∃ v h', Step P T e h op v h' ∧ K v h' ∧ ((isCall op = true ∧ z h') ∨ stepF T ρ.ev h op = some (v, h')) := by
  have hx : ∀ x ∈ op.operands, e.ev x = ρ.ev x := fun x hx => ha.ev (by have := Array.all_eq_true_iff_forall_mem.1 ho x hx; exact this)
  unfold wqO at hw
  split at hw
  · rename_i f xs _
    split at hw
    · rename_i g caps vs hf hvs
      obtain ⟨v, h', hc, hz, hk⟩ := hw
      refine ⟨v, h', .inr (.inr ⟨f, xs, _, g, caps, vs, rfl, ?_, ?_, hc⟩), hk, .inl ⟨rfl, hz⟩⟩
      · rw [hx f (by simp [Op.operands, Call.operands])]; exact hf
      · rw [evs_congr xs.toList fun x hx' => hx x (by simp [Op.operands, Call.operands]; exact .inr (by simpa using hx'))]; exact hvs
    · exact hw.elim
  · split at hw
    · rename_i v h' hs
      exact ⟨v, h', stepF_step ha ho hs, hw, .inr hs⟩
    · exact hw.elim

theorem wqL_wp {n : Nat} (ops : Array Oper) {Q : Rho → Heap → Prop} {Q' : Env → Heap → Prop} (hQ : ∀ ρ e h, Agree n ρ e → Q ρ h → Q' e h) : ∀ (l : List Oper), l.all (operOk n ops) = true → ∀ (ρ : Rho) (e : Env) (h : Heap), Agree n ρ e → wqL P T ops l Q ρ h → wpL P T ops l Q' e h
  | [], _, ρ, e, h, ha, hw => hQ ρ e h ha hw
  | o :: rest, hok, ρ, e, h, ha, hw => by
    simp only [List.all_cons, Bool.and_eq_true] at hok
    have hg := ha.guard hok.1
    have ho := hok.1
    simp only [operOk, Bool.and_eq_true] at ho
    have hd : ∀ k, o.dst = some k → k < n := fun k hk => by have := ho.1.2; rw [hk] at this; simpa using this
    simp only [wqL] at hw
    simp only [wpL]
    split at hw
    · rename_i hgr
      obtain ⟨v, h', st, hk, _⟩ := wqO_step ha ho.1.1 hw
      exact .inl ⟨hg.trans hgr, v, h', st, wqL_wp ops hQ rest hok.2 _ _ _ (ha.put hd v) hk⟩
    · rename_i hgr
      exact .inr ⟨by rw [hg]; simpa using hgr, wqL_wp ops hQ rest hok.2 _ _ _ (ha.put hd V.undef) hw⟩

/-- two lists of late loads -/
def PendA (n : Nat) : List PendR → List Pend → Prop
  | [], [] => True
  | p :: ps, q :: qs => (Agree n p.ρ q.e ∧ p.op = q.op ∧ p.v = q.v ∧ p.op.operands.all (inB n) = true) ∧ PendA n ps qs
  | _, _ => False

theorem PendA.holds {n : Nat} {h : Heap} : ∀ {ps : List PendR} {qs : List Pend}, PendA n ps qs → (∀ p ∈ ps, p.holds T h) → ∀ q ∈ qs, q.holds T h
  | [], [], _, _, q, hq => by simp at hq
  | p :: ps, q :: qs, ⟨⟨h1, h2, h3, h4⟩, hr⟩, hp, q', hq => by
    rcases List.mem_cons.1 hq with rfl | hq
    · have := hp p (by simp)
      unfold PendR.holds at this
      unfold Pend.holds
      rw [← h2, ← h3, mem_congr fun x hx => h1.ev (by have := Array.all_eq_true_iff_forall_mem.1 h4 x hx; exact this)]
      exact this
    · exact PendA.holds hr (fun p hp' => hp p (by simp [hp'])) q' hq
  | [], _ :: _, h, _, _, _ => h.elim
  | _ :: _, [], h, _, _, _ => h.elim

theorem wqE_wp {n : Nat} (ops : Array Oper) {Q : Rho → Heap → Prop} {Q' : Env → Heap → Prop} (hQ : ∀ ρ e h, Agree n ρ e → Q ρ h → Q' e h) : ∀ (l : List Oper) (k : Nat) (ps : List PendR) (qs : List Pend), PendA n ps qs → l.all (operOk n ops) = true → (∀ (j : Nat) o, l[j]? = some o → (isCall o.op || quietOp o.op || barrier ops (k + j)) = true) → ∀ (ρ : Rho) (e : Env) (h : Heap), Agree n ρ e → wqE P T ops k l ps Q ρ h → wpD P T ops k l qs Q' e h
  | [], _, _, _, _, _, _, ρ, e, h, ha, hw => hQ ρ e h ha hw
  | o :: rest, k, ps, qs, hpq, hok, hst, ρ, e, h, ha, hw => by
    simp only [List.all_cons, Bool.and_eq_true] at hok
    have hg := ha.guard hok.1
    have ho := hok.1
    simp only [operOk, Bool.and_eq_true] at ho
    have hd : ∀ k, o.dst = some k → k < n := fun k hk => by have := ho.1.2; rw [hk] at this; simpa using this
    have hst' : ∀ (j : Nat) o, rest[j]? = some o → (isCall o.op || quietOp o.op || barrier ops (k + 1 + j)) = true := fun j o hj => by have := hst (j + 1) o (by simpa using hj); rwa [show k + (j + 1) = k + 1 + j by omega] at this
    simp only [wqE] at hw
    simp only [wpD]
    split at hw
    · rename_i hgr
      obtain ⟨v, h', st, ⟨hp, hu, hk⟩, hz⟩ := wqO_step ha ho.1.1 hw
      have h0 := hst 0 o rfl
      rw [Nat.add_zero] at h0
      refine .inl ⟨hg.trans hgr, v, h', st, ?_, ?_, hpq.holds hp, hu, wqE_wp ops hQ rest (k + 1) _ _ ?_ hok.2 hst' _ _ _ (ha.put hd v) hk⟩
      · rcases hz with ⟨_, hz | hz⟩ | hz
        · exact hz.length_le
        · exact hz.1
        · exact stepF_grow hz
      · rcases hz with ⟨_, hz | hz⟩ | hz
        · exact .inl hz
        · exact .inr hz.2
        · simp only [Bool.or_eq_true] at h0
          rcases h0 with (h0 | h0) | h0
          · exfalso
            unfold isCall at h0
            split at h0
            · rename_i ho'; rw [ho'] at hz; simp [stepF, pureOp, memOp] at hz
            · cases h0
          · exact .inl (stepF_quiet h0 hz)
          · exact .inr h0
      · split
        · exact ⟨⟨ha, rfl, rfl, ho.1.1⟩, hpq⟩
        · exact hpq
    · rename_i hgr
      exact .inr ⟨by rw [hg]; simpa using hgr, wqE_wp ops hQ rest (k + 1) ps qs hpq hok.2 hst' _ _ _ (ha.put hd V.undef) hw⟩

theorem wq_wp {n : Nat} (c : Code) : codeOk n c = true → ∀ (Q : Exit → Rho → Heap → Prop) (Q' : Exit → Env → Heap → Prop), (∀ x ρ e h, Agree n ρ e → Q x ρ h → Q' x e h) → ∀ (ρ : Rho) (e : Env) (h : Heap), Agree n ρ e → wq P T c Q ρ h → wp P T c Q' e h := by
  induction c with
  | skip => intro _ Q Q' hQ ρ e h ha hw; exact hQ _ _ _ _ ha hw
  | label l => intro _ Q Q' hQ ρ e h ha hw; exact hQ _ _ _ _ ha hw
  | exit id => intro _ Q Q' hQ ρ e h ha hw; exact hQ _ _ _ _ ha hw
  | goto l => intro _ Q Q' hQ ρ e h ha hw; exact hQ _ _ _ _ ha hw
  | ret => intro _ Q Q' hQ ρ e h ha hw; exact hQ _ _ _ _ ha hw
  | region id ops d =>
    intro hok Q Q' hQ ρ e h ha hw
    simp only [codeOk, Bool.and_eq_true] at hok
    cases d with
    | false => exact wqL_wp ops (Q := Q .normal) (fun ρ e h ha hq => hQ .normal ρ e h ha hq) ops.toList hok.1 ρ e h ha hw
    | true =>
      have h2 := hok.2
      simp only [Bool.not_true, Bool.false_or, Bool.and_eq_true, List.all_eq_true] at h2
      refine ⟨h2.1, wqE_wp ops (Q := Q .normal) (fun ρ e h ha hq => hQ .normal ρ e h ha hq) ops.toList 0 [] [] trivial hok.1 (fun j o hj => ?_) ρ e h ha hw⟩
      have := h2.2 (o, j) (by rw [List.mem_iff_getElem?]; exact ⟨j, by simp [List.getElem?_zipIdx, hj]⟩)
      simpa using this
  | seq x y ihx ihy =>
    intro hok Q Q' hQ ρ e h ha hw
    simp only [codeOk, Bool.and_eq_true] at hok
    refine ihx hok.1 _ _ (fun ex ρ e h ha hq => ?_) ρ e h ha hw
    cases ex with
    | normal => exact ihy hok.2 Q Q' hQ ρ e h ha hq
    | exit id => exact hQ _ _ _ _ ha hq
    | goto l => exact hQ _ _ _ _ ha hq
    | ret => exact hQ _ _ _ _ ha hq
    | panic ch => exact hQ _ _ _ _ ha hq
    | outgrown => exact hQ _ _ _ _ ha hq
  | cond c x y ihx ihy =>
    intro hok Q Q' hQ ρ e h ha hw
    simp only [codeOk, Bool.and_eq_true] at hok
    simp only [wq] at hw
    split at hw
    · rename_i t ht
      rw [← ha.ev hok.1.1] at ht
      refine ⟨t, ht, ?_⟩
      split at hw
      · rename_i htt; exact .inl ⟨htt, ihx hok.1.2 Q Q' hQ ρ e h ha hw⟩
      · rename_i htt; exact .inr ⟨by simpa using htt, ihy hok.2 Q Q' hQ ρ e h ha hw⟩
    · exact hw.elim
  | block id c ih =>
    intro hok Q Q' hQ ρ e h ha hw
    refine ih hok _ _ (fun ex ρ e h ha hq => ?_) ρ e h ha hw
    cases ex with
    | exit id' =>
      simp only [Bk] at hq
      simp only [Ex.inBlock]
      split
      · rename_i he; rw [if_pos he] at hq; exact hQ _ _ _ _ ha hq
      · rename_i he; rw [if_neg he] at hq; exact hQ _ _ _ _ ha hq
    | normal => exact hQ _ _ _ _ ha hq
    | goto l => exact hQ _ _ _ _ ha hq
    | ret => exact hQ _ _ _ _ ha hq
    | panic ch => exact hQ _ _ _ _ ha hq
    | outgrown => exact hQ _ _ _ _ ha hq
  | loop c ih =>
    intro hok Q Q' hQ ρ e h ha hw
    obtain ⟨m, hw⟩ := hw
    refine ⟨m, ?_⟩
    induction m generalizing ρ e h with
    | zero => exact hw.elim
    | succ m ihm =>
      refine ih hok _ _ (fun ex ρ e h ha hq => ?_) ρ e h ha hw
      cases ex with
      | normal => exact ihm ρ e h ha hq
      | exit id => exact hQ _ _ _ _ ha hq
      | goto l => exact hQ _ _ _ _ ha hq
      | ret => exact hQ _ _ _ _ ha hq
      | panic ch => exact hQ _ _ _ _ ha hq
      | outgrown => exact hQ _ _ _ _ ha hq
  | rangeFunc f ps x y ihx ihy => intro _ Q Q' hQ ρ e h ha hw; exact hw.elim
  | scope c ih => intro _ Q Q' hQ ρ e h ha hw; exact hw.elim
  | refuse why => intro _ Q Q' hQ ρ e h ha hw; exact hw.elim

/-- what a function answers -/
def resR (T : Tab) (ρ : Rho) (h : Heap) : ResultVar → Option V
  | .tmp t => some (ρ t)
  | .cell a t => match ρ a, T t with
    | .ptr b off, some i => if i.k.agg then (h.loadN b off i.size).map .agg else
        match h.loadN b off 1 with
        | some [v] => some v
        | _ => none
    | _, _ => none
def resRs (T : Tab) (ρ : Rho) (h : Heap) : List ResultVar → Option (List V)
  | [] => some []
  | r :: rs => match resR T ρ h r, resRs T ρ h rs with
    | some v, some vs => some (v :: vs)
    | _, _ => none
def resRf (T : Tab) (rs : List ResultVar) (ρ : Rho) (h : Heap) : Option V :=
  match resRs T ρ h rs with
  | some [v] => some v
  | some vs => some (.tup vs)
  | none => none

def resIn (n : Nat) : ResultVar → Bool
  | .tmp t => decide (t < n)
  | .cell a _ => decide (a < n)

theorem resR_eq {n : Nat} {ρ : Rho} {e : Env} (ha : Agree n ρ e) {h : Heap} : ∀ {rs : List ResultVar}, rs.all (resIn n) = true → resVs T e h rs = resRs T ρ h rs
  | [], _ => rfl
  | r :: rs, hr => by
    simp only [List.all_cons, Bool.and_eq_true] at hr
    have h1 : resV T e h r = resR T ρ h r := by
      cases r with
      | tmp t => simp only [resIn, decide_eq_true_eq] at hr; simp only [resV, resR]; exact ha.tmp t hr.1
      | cell a t => simp only [resIn, decide_eq_true_eq] at hr; simp only [resV, resR, ha.tmp a hr.1]; cases ρ a <;> cases T t <;> rfl
    simp only [resVs, resRs, h1, resR_eq ha hr.2]
    rfl

/-- how a body ends -/
def EndR (T : Tab) (rs : List ResultVar) (R : V → Heap → Prop) : Exit → Rho → Heap → Prop
  | .normal, ρ, h | .ret, ρ, h => ∃ v, resRf T rs ρ h = some v ∧ R v h
  | _, _, _ => False

def funcOk (fn : Func) (c : Code) (k : Nat) : Bool := codeOk fn.ntmps c && fn.results.toList.all (resIn fn.ntmps) && decide (k ≤ fn.ntmps)

/-- the temporaries at the start -/
def rho0 (args : List V) : Rho := fun t => args.getD t V.undef

theorem wp_get {c : Code} {n : Nat} {rs : List ResultVar} {R : V → Heap → Prop} {e : Env} {H : Heap} {ρ : Rho} (fn : Func) (hrs : fn.results.toList = rs) (hc : codeOk n c = true) (hr : rs.all (resIn n) = true) (ha : Agree n ρ e)
    (h : wq P T c (EndR T rs R) ρ H) : wp P T c (fun x e' h' => (x = .normal ∨ x = .ret) ∧ ∃ v, resOf T fn e' h' = some v ∧ R v h') e H := by
  refine wq_wp c hc _ _ (fun x ρ e h ha hq => ?_) ρ e H ha h
  have key : (∃ v, resRf T rs ρ h = some v ∧ R v h) → ∃ v, resOf T fn e h = some v ∧ R v h := by
    rintro ⟨v, h1, h2⟩
    refine ⟨v, ?_, h2⟩
    unfold resOf
    rw [hrs, resR_eq ha hr]
    exact h1
  cases x <;> simp only [EndR] at hq
  · exact ⟨.inl rfl, key hq⟩
  · exact ⟨.inr rfl, key hq⟩

end Go.Proofs.Ytjageapgbpdlhaa.VM
