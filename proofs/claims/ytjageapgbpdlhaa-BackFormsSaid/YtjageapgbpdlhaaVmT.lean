/- THE SMALL MACHINE, part T: one step at a time. -/
import Derived.Test.YtjageapgbpdlhaaVmS
namespace Go.Proofs.Ytjageapgbpdlhaa.VM
open Go
set_option linter.unusedVariables false
set_option linter.unusedSimpArgs false

variable {P : Program} {T : Tab}

theorem put_app (ρ : Rho) (d : Nat) (v : V) (t : Nat) : (ρ.put (some d) v) t = if t = d then v else ρ t := rfl
theorem put_none (ρ : Rho) (v : V) : ρ.put none v = ρ := rfl
theorem ev_tmp (ρ : Rho) (t : Nat) : ρ.ev (.tmp t) = some (ρ t) := rfl
theorem ev_const (ρ : Rho) (v : Value) : ρ.ev (.const v) = V.of v := rfl
theorem ev_func (ρ : Rho) (f : Nat) : ρ.ev (.func f) = some (.fn f []) := rfl
theorem rho0_app (args : List V) (t : Nat) : rho0 args t = args.getD t V.undef := rfl

section flow
variable {Q : Exit → Rho → Heap → Prop} {ρ : Rho} {h : Heap}
theorem wq_seq {a b : Code} (hw : wq P T a (Th (wq P T b Q) Q) ρ h) : wq P T (.seq a b) Q ρ h := hw
theorem wq_skip (hw : Q .normal ρ h) : wq P T .skip Q ρ h := hw
theorem wq_ret (hw : Q .ret ρ h) : wq P T .ret Q ρ h := hw
theorem wq_exit {id : Nat} (hw : Q (.exit id) ρ h) : wq P T (.exit id) Q ρ h := hw
theorem wq_block {id : Nat} {c : Code} (hw : wq P T c (Bk id Q) ρ h) : wq P T (.block id c) Q ρ h := hw
theorem wq_line {id : Nat} {ops : Array Oper} (hw : wqL P T ops ops.toList (Q .normal) ρ h) : wq P T (.region id ops false) Q ρ h := hw
theorem wq_draw {id : Nat} {ops : Array Oper} (hn : noLate ops = true) (hw : wqD P T ops 0 ops.toList (Q .normal) ρ h) : wq P T (.region id ops true) Q ρ h := wqE_of (Q := Q .normal) hn _ _ _ _ hw
theorem wq_late {id : Nat} {ops : Array Oper} (hw : wqE P T ops 0 ops.toList [] (Q .normal) ρ h) : wq P T (.region id ops true) Q ρ h := hw
theorem wq_cond {c : Operand} {a b : Code} {t : Bool} (hc : ρ.ev c = some (.bool t)) (h1 : t = true → wq P T a Q ρ h) (h2 : t = false → wq P T b Q ρ h) : wq P T (.cond c a b) Q ρ h := by
  simp only [wq, hc]
  cases t
  · exact h2 rfl
  · exact h1 rfl
theorem th_normal {n : Rho → Heap → Prop} (hw : n ρ h) : Th n Q .normal ρ h := hw
theorem th_ret {n : Rho → Heap → Prop} (hw : Q .ret ρ h) : Th n Q .ret ρ h := hw
theorem th_exit {n : Rho → Heap → Prop} {id : Nat} (hw : Q (.exit id) ρ h) : Th n Q (.exit id) ρ h := hw
theorem bk_normal {id : Nat} (hw : Q .normal ρ h) : Bk id Q .normal ρ h := hw
theorem bk_ret {id : Nat} (hw : Q .ret ρ h) : Bk id Q .ret ρ h := hw
theorem bk_exit {id : Nat} (hw : Q .normal ρ h) : Bk id Q (.exit id) ρ h := by simp only [Bk, if_true]; exact hw
theorem bk_other {id id' : Nat} (hne : (id' == id) = false) (hw : Q (.exit id') ρ h) : Bk id Q (.exit id') ρ h := by simp only [Bk]; rw [if_neg (by simpa using hne)]; exact hw
theorem end_ret {rs : List ResultVar} {R : V → Heap → Prop} {v : V} (hv : resRf T rs ρ h = some v) (hr : R v h) : EndR T rs R .ret ρ h := ⟨v, hv, hr⟩
theorem end_normal {rs : List ResultVar} {R : V → Heap → Prop} {v : V} (hv : resRf T rs ρ h = some v) (hr : R v h) : EndR T rs R .normal ρ h := ⟨v, hv, hr⟩
end flow

section ops
variable {ops : Array Oper} {rest : List Oper} {Q : Rho → Heap → Prop} {ρ : Rho} {h h' : Heap} {o : Oper} {v : V}
theorem l_nil (hw : Q ρ h) : wqL P T ops [] Q ρ h := hw
theorem d_nil {k : Nat} (hw : Q ρ h) : wqD P T ops k [] Q ρ h := hw
theorem e_nil {k : Nat} {ps : List PendR} (hw : Q ρ h) : wqE P T ops k [] ps Q ρ h := hw

/-- a step that is no call -/
def Does (T : Tab) (ρ : Rho) (h : Heap) (op : Op) (v : V) (h' : Heap) : Prop := isCall op = false ∧ stepF T ρ.ev h op = some (v, h')

theorem wqO_of {z : Heap → Prop} {op : Op} {K : V → Heap → Prop} (hs : Does T ρ h op v h') (hk : K v h') : wqO P T z op ρ h K := by
  unfold wqO
  split
  · exact absurd hs.1 (by simp [isCall])
  · rw [hs.2]; exact hk

theorem guard_no {d : Option Nat} {op : Op} {t : Nat} {p : String} {af : Array Edge} : guardR ops ρ ⟨d, op, t, p, af, none⟩ = true := rfl
theorem l_step {d : Option Nat} {op : Op} {t : Nat} {p : String} {af : Array Edge} (hs : Does T ρ h op v h') (hw : wqL P T ops rest Q (ρ.put d v) h') : wqL P T ops (⟨d, op, t, p, af, none⟩ :: rest) Q ρ h := by
  simp only [wqL]; rw [if_pos guard_no]; exact wqO_of hs hw
theorem d_step {k : Nat} {d : Option Nat} {op : Op} {t : Nat} {p : String} {af : Array Edge} (hs : Does T ρ h op v h') (hw : wqD P T ops (k + 1) rest Q (ρ.put d v) h') : wqD P T ops k (⟨d, op, t, p, af, none⟩ :: rest) Q ρ h := by
  simp only [wqD]; rw [if_pos guard_no]; exact wqO_of hs hw

/-- a step that leaves the memory as it was, and is no late load -/
theorem e_step {k : Nat} {ps : List PendR} {d : Option Nat} {op : Op} {t : Nat} {p : String} {af : Array Edge} (hl : lateAt ops k = false) (hp : ∀ p ∈ ps, p.holds T h) (hs : Does T ρ h op v h) (hw : wqE P T ops (k + 1) rest ps Q (ρ.put d v) h) : wqE P T ops k (⟨d, op, t, p, af, none⟩ :: rest) ps Q ρ h := by
  simp only [wqE]; rw [if_pos guard_no]
  refine wqO_of hs ?_
  refine ⟨hp, ?_, ?_⟩
  · intro h; rw [hl] at h; cases h
  · rw [if_neg (by rw [hl]; simp)]; exact hw
/-- a step that turns the memory -/
theorem e_store {k : Nat} {ps : List PendR} {d : Option Nat} {op : Op} {t : Nat} {p : String} {af : Array Edge} (hl : lateAt ops k = false) (hs : Does T ρ h op v h') (hp : ∀ p ∈ ps, p.holds T h') (hw : wqE P T ops (k + 1) rest ps Q (ρ.put d v) h') : wqE P T ops k (⟨d, op, t, p, af, none⟩ :: rest) ps Q ρ h := by
  simp only [wqE]; rw [if_pos guard_no]
  refine wqO_of hs ?_
  refine ⟨hp, ?_, ?_⟩
  · intro h; rw [hl] at h; cases h
  · rw [if_neg (by rw [hl]; simp)]; exact hw
/-- a late load -/
theorem e_late {k : Nat} {ps : List PendR} {d : Option Nat} {op : Op} {t : Nat} {p : String} {af : Array Edge} (hl : lateAt ops k = true) (hp : ∀ p ∈ ps, p.holds T h) (hs : Does T ρ h op v h) (hu : v.under h.length = true) (hw : wqE P T ops (k + 1) rest (⟨ρ, op, v⟩ :: ps) Q (ρ.put d v) h) : wqE P T ops k (⟨d, op, t, p, af, none⟩ :: rest) ps Q ρ h := by
  simp only [wqE]; rw [if_pos guard_no]
  refine wqO_of hs ?_
  refine ⟨hp, fun _ => hu, ?_⟩
  rw [if_pos hl]; exact hw

/-- the guard of an operation -/
def Guard (ops : Array Oper) (ρ : Rho) (j : Nat) (b : Bool) : Prop := ∃ d, (ops[j]?).bind (·.dst) = some d ∧ ρ d = .bool b
theorem guard_is {d : Option Nat} {op : Op} {t : Nat} {p : String} {af : Array Edge} {j : Nat} {w b : Bool} (hg : Guard ops ρ j b) : guardR ops ρ ⟨d, op, t, p, af, some (j, w)⟩ = (b == w) := by
  obtain ⟨e, h1, h2⟩ := hg
  simp only [guardR, h1, h2]
theorem guard_mk {j d : Nat} {b : Bool} (h1 : (ops[j]?).bind (·.dst) = some d) (h2 : ρ.ev (.tmp d) = some (.bool b)) : Guard ops ρ j b := ⟨d, h1, by simpa [Rho.ev] using h2⟩
theorem l_on {d : Option Nat} {op : Op} {t : Nat} {p : String} {af : Array Edge} {j : Nat} {w : Bool} (hg : Guard ops ρ j w) (hw : wqL P T ops (⟨d, op, t, p, af, none⟩ :: rest) Q ρ h) : wqL P T ops (⟨d, op, t, p, af, some (j, w)⟩ :: rest) Q ρ h := by
  simp only [wqL] at hw ⊢; rw [if_pos guard_no] at hw; rw [if_pos (by rw [guard_is hg]; simp)]; exact hw
theorem d_on {k : Nat} {d : Option Nat} {op : Op} {t : Nat} {p : String} {af : Array Edge} {j : Nat} {w : Bool} (hg : Guard ops ρ j w) (hw : wqD P T ops k (⟨d, op, t, p, af, none⟩ :: rest) Q ρ h) : wqD P T ops k (⟨d, op, t, p, af, some (j, w)⟩ :: rest) Q ρ h := by
  simp only [wqD] at hw ⊢; rw [if_pos guard_no] at hw; rw [if_pos (by rw [guard_is hg]; simp)]; exact hw
theorem l_off {d : Option Nat} {op : Op} {t : Nat} {p : String} {af : Array Edge} {j : Nat} {w : Bool} {w' : Bool} (hg : Guard ops ρ j w') (hw : wqL P T ops rest Q (ρ.put d V.undef) h) (hne : (w' == w) = false := by rfl) : wqL P T ops (⟨d, op, t, p, af, some (j, w)⟩ :: rest) Q ρ h := by
  simp only [wqL]; rw [if_neg (by rw [guard_is hg, hne]; simp)]; exact hw
theorem d_off {k : Nat} {d : Option Nat} {op : Op} {t : Nat} {p : String} {af : Array Edge} {j : Nat} {w : Bool} {w' : Bool} (hg : Guard ops ρ j w') (hw : wqD P T ops (k + 1) rest Q (ρ.put d V.undef) h) (hne : (w' == w) = false := by rfl) : wqD P T ops k (⟨d, op, t, p, af, some (j, w)⟩ :: rest) Q ρ h := by
  simp only [wqD]; rw [if_neg (by rw [guard_is hg, hne]; simp)]; exact hw
theorem l_part {d : Option Nat} {op : Op} {t : Nat} {p : String} {af : Array Edge} {j : Nat} {b : Bool} (hg : Guard ops ρ j b) (h1 : b = true → wqL P T ops (⟨d, op, t, p, af, none⟩ :: rest) Q ρ h) (h2 : b = false → wqL P T ops rest Q (ρ.put d V.undef) h) : wqL P T ops (⟨d, op, t, p, af, some (j, true)⟩ :: rest) Q ρ h := by
  cases b
  · exact l_off hg (h2 rfl)
  · exact l_on hg (h1 rfl)
theorem l_part' {d : Option Nat} {op : Op} {t : Nat} {p : String} {af : Array Edge} {j : Nat} {b : Bool} (hg : Guard ops ρ j b) (h1 : b = false → wqL P T ops (⟨d, op, t, p, af, none⟩ :: rest) Q ρ h) (h2 : b = true → wqL P T ops rest Q (ρ.put d V.undef) h) : wqL P T ops (⟨d, op, t, p, af, some (j, false)⟩ :: rest) Q ρ h := by
  cases b
  · exact l_on hg (h1 rfl)
  · exact l_off hg (h2 rfl)
theorem d_part {k : Nat} {d : Option Nat} {op : Op} {t : Nat} {p : String} {af : Array Edge} {j : Nat} {b : Bool} (hg : Guard ops ρ j b) (h1 : b = true → wqD P T ops k (⟨d, op, t, p, af, none⟩ :: rest) Q ρ h) (h2 : b = false → wqD P T ops (k + 1) rest Q (ρ.put d V.undef) h) : wqD P T ops k (⟨d, op, t, p, af, some (j, true)⟩ :: rest) Q ρ h := by
  cases b
  · exact d_off hg (h2 rfl)
  · exact d_on hg (h1 rfl)
theorem d_part' {k : Nat} {d : Option Nat} {op : Op} {t : Nat} {p : String} {af : Array Edge} {j : Nat} {b : Bool} (hg : Guard ops ρ j b) (h1 : b = false → wqD P T ops k (⟨d, op, t, p, af, none⟩ :: rest) Q ρ h) (h2 : b = true → wqD P T ops (k + 1) rest Q (ρ.put d V.undef) h) : wqD P T ops k (⟨d, op, t, p, af, some (j, false)⟩ :: rest) Q ρ h := by
  cases b
  · exact d_on hg (h1 rfl)
  · exact d_off hg (h2 rfl)

/-- who is called, with what -/
def callsWhom (ρ : Rho) : Op → Option (Nat × List V)
  | .call { callee := .value f, args := xs, .. } => match ρ.ev f, evs ρ.ev xs.toList with
    | some (.fn g caps), some vs => some (g, vs ++ caps)
    | _, _ => none
  | _ => none

theorem wqO_call {z : Heap → Prop} {op : Op} {K : V → Heap → Prop} {g : Nat} {args : List V} (hc : callsWhom ρ op = some (g, args)) (hcall : Call P g args h v h') (hz : z h') (hk : K v h') : wqO P T z op ρ h K := by
  unfold callsWhom at hc
  split at hc
  · rename_i f xs ts
    split at hc
    · rename_i g' caps vs h1 h2
      simp only [Option.some.injEq, Prod.mk.injEq] at hc
      obtain ⟨rfl, rfl⟩ := hc
      simp only [wqO, h1, h2]
      exact ⟨v, h', hcall, hz, hk⟩
    · cases hc
  · cases hc
theorem l_call {d : Option Nat} {op : Op} {t : Nat} {p : String} {af : Array Edge} {g : Nat} {args : List V} (hc : callsWhom ρ op = some (g, args)) (hcall : Call P g args h v h') (hw : wqL P T ops rest Q (ρ.put d v) h') : wqL P T ops (⟨d, op, t, p, af, none⟩ :: rest) Q ρ h := by
  simp only [wqL]; rw [if_pos guard_no]; exact wqO_call hc hcall trivial hw
theorem d_call {k : Nat} {d : Option Nat} {op : Op} {t : Nat} {p : String} {af : Array Edge} {g : Nat} {args : List V} (hc : callsWhom ρ op = some (g, args)) (hcall : Call P g args h v h') (hz : h <+: h' ∨ (h.length ≤ h'.length ∧ barrier ops k = true)) (hw : wqD P T ops (k + 1) rest Q (ρ.put d v) h') : wqD P T ops k (⟨d, op, t, p, af, none⟩ :: rest) Q ρ h := by
  simp only [wqD]; rw [if_pos guard_no]; exact wqO_call hc hcall hz hw
/-- a call that leaves the memory as it was -/
theorem d_call0 {k : Nat} {d : Option Nat} {op : Op} {t : Nat} {p : String} {af : Array Edge} {g : Nat} {args : List V} (hc : callsWhom ρ op = some (g, args)) (hcall : Call P g args h v h) (hw : wqD P T ops (k + 1) rest Q (ρ.put d v) h) : wqD P T ops k (⟨d, op, t, p, af, none⟩ :: rest) Q ρ h :=
  d_call hc hcall (.inl (List.prefix_refl _)) hw
end ops

section steps
variable {ρ : Rho} {h h' : Heap} {v a b : V} {x y z : Operand}
theorem does_pure {op : Op} (hc : isCall op = false) (hp : pureOp T ρ.ev op = some v) : Does T ρ h op v h := ⟨hc, by unfold stepF; rw [hp]⟩
theorem does_mem {op : Op} (hc : isCall op = false) (hp : pureOp T ρ.ev op = none) (hm : memOp T ρ.ev h op = some (v, h')) : Does T ρ h op v h' := ⟨hc, by unfold stepF; rw [hp]; exact hm⟩

theorem s_move (hx : ρ.ev x = some v) : Does T ρ h (.move x) v h := does_pure rfl hx
theorem s_assign (hx : ρ.ev x = some v) : Does T ρ h (.assign x) v h := does_pure rfl hx
theorem s_pick {c : Bool} (hc : ρ.ev z = some (.bool c)) (hx : ρ.ev x = some a) (hy : ρ.ev y = some b) (hv : (if c then a else b) = v) : Does T ρ h (.pick z x y) v h := does_pure rfl (by simp only [pureOp, hc, hx, hy, hv])
theorem s_pick1 (hc : ρ.ev z = some (.bool true)) (hx : ρ.ev x = some a) (hy : ρ.ev y = some b) : Does T ρ h (.pick z x y) a h := s_pick hc hx hy rfl
theorem s_pick0 (hc : ρ.ev z = some (.bool false)) (hx : ρ.ev x = some a) (hy : ρ.ev y = some b) : Does T ρ h (.pick z x y) b h := s_pick hc hx hy rfl
theorem s_bin {op : BinOp} {t u : Nat} (hx : ρ.ev x = some a) (hy : ρ.ev y = some b) (hv : vbin T op t a b = some v) : Does T ρ h (.binOp op t x y u) v h := does_pure rfl (by simp only [pureOp, hx, hy, hv])
theorem s_un {op : UnOp} {t : Nat} (hx : ρ.ev x = some a) (hv : vun op a = some v) : Does T ρ h (.unOp op t x) v h := does_pure rfl (by simp only [pureOp, hx, hv])
theorem s_nil {bb off : Nat} (hx : ρ.ev x = some (.ptr bb off)) : Does T ρ h (.nilCheck x) (.ptr bb off) h := does_pure rfl (by simp only [pureOp, hx])
theorem s_extract {i : Nat} {vs : List V} (hx : ρ.ev x = some (.tup vs)) (hv : vs[i]? = some v) : Does T ρ h (.extract x i) v h := does_pure rfl (by simp only [pureOp, hx, hv])
theorem s_func {f : Nat} {caps : Array Operand} {vs : List V} {first : Array Operand} (hfi : first.toList = []) (hvs : evs ρ.ev caps.toList = some vs) : Does T ρ h (.makeFunc (.func f) first caps) (.fn f vs) h := does_pure rfl (by simp only [pureOp, hfi, hvs])

/-- where a field lies -/
def fieldV (T : Tab) (t f : Nat) : Option Nat :=
  match T t with
  | some { k := .strct fs, .. } => match fs[f]? with
    | some (ft, fo) => match T ft with
      | some i => if i.size = 0 then none else some fo
      | none => none
    | none => none
  | _ => none
theorem s_field {t f bb off k : Nat} (hx : ρ.ev x = some (.ptr bb off)) (hf : fieldV T t f = some k) : Does T ρ h (.fieldAddr t x f) (.ptr bb (off + k)) h := by
  refine does_pure rfl ?_
  simp only [pureOp, hx]
  unfold fieldV at hf
  split at hf
  · rename_i hT
    simp only [hT]
    split at hf
    · rename_i e2
      simp only [e2]
      split at hf
      · rename_i e3
        simp only [e3]
        split at hf
        · cases hf
        · rename_i e4
          simp only [Option.some.injEq] at hf
          subst hf
          rw [if_neg e4]
      · cases hf
    · cases hf
  · cases hf

/-- where an element lies -/
def idxV (T : Tab) (t : Nat) (a : V) (i : Int) : Option V :=
  match T t, a with
  | some { k := .slice e, .. }, .slc b off len cap _ _ => match T e with
    | some ei => if 0 ≤ i ∧ i < len then some (.ptr b (off + i.toNat * ei.size)) else none
    | none => none
  | some { k := .arr n e, .. }, .ptr b off => match T e with
    | some ei => if 0 ≤ i ∧ i < n then some (.ptr b (off + i.toNat * ei.size)) else none
    | none => none
  | _, _ => none
theorem s_index {t : Nat} {k : IntKind} {i : Int} (hx : ρ.ev x = some a) (hy : ρ.ev y = some (.int k i)) (hv : idxV T t a i = some v) : Does T ρ h (.indexAddr t x y) v h := by
  refine does_pure rfl ?_
  simp only [pureOp, hx, hy]
  unfold idxV at hv
  split at hv <;> first | (rename_i hT _; simp only [hT]; exact hv) | (rename_i hT; simp only [hT]; exact hv) | cases hv

theorem s_index2 {t b o o' : Nat} {k : IntKind} {i : Int} (hx : ρ.ev x = some a) (hy : ρ.ev y = some (.int k i)) (hv : idxV T t a i = some (.ptr b o')) (ho : o' = o) : Does T ρ h (.indexAddr t x y) (.ptr b o) h := by
  subst ho; exact s_index hx hy hv

def loadV (T : Tab) (t : Nat) (h : Heap) (b off : Nat) : Option V :=
  match T t with
  | some i => if i.k.agg then (h.loadN b off i.size).map .agg else match h.loadN b off 1 with
    | some [v] => some v
    | _ => none
  | none => none
theorem s_load {t bb off : Nat} (hx : ρ.ev x = some (.ptr bb off)) (hv : loadV T t h bb off = some v) : Does T ρ h (.load t x) v h := by
  refine does_mem rfl rfl ?_
  simp only [memOp, hx]
  unfold loadV at hv
  split at hv
  · rename_i i hT
    simp only [hT]
    split at hv
    · rename_i ha
      simp only [ha, if_true]
      cases hl : h.loadN bb off i.size with
      | none => rw [hl] at hv; cases hv
      | some cs => rw [hl] at hv; simp only [Option.map_some, Option.some.injEq] at hv ⊢; rw [hv]
    · rename_i ha
      simp only [ha]
      split at hv
      · rename_i u hu
        simp only [Option.some.injEq] at hv
        subst hv
        simp only [hu, Bool.false_eq_true, if_false]
      · cases hv
  · cases hv

def storeV (T : Tab) (t : Nat) (h : Heap) (b off : Nat) (v : V) : Option Heap :=
  match T t, v with
  | some _, .tup _ => none
  | some i, v => if v.cells.length = i.size then h.storeN b off v.cells else none
  | none, _ => none
theorem s_store {t bb off : Nat} (hx : ρ.ev x = some (.ptr bb off)) (hy : ρ.ev y = some a) (hv : storeV T t h bb off a = some h') : Does T ρ h (.store t x y) V.undef h' := by
  refine does_mem rfl rfl ?_
  simp only [memOp, hx, hy]
  unfold storeV at hv
  split at hv
  · cases hv
  · rename_i i hT hne
    simp only [hT]
    split at hv
    · rename_i hl
      rw [if_pos hl, hv]
      rfl
    · cases hv
  · cases hv

theorem s_alloc {t : Nat} {i : TI} (hT : T t = some i) : Does T ρ h (.alloc t) (.ptr h.length 0) (h ++ [.row i.zero true]) := does_mem rfl rfl (by simp only [memOp, hT])
theorem s_box {t : Nat} {i : TI} (hT : T t = some i) (hx : ρ.ev x = some a) (ht : a.isTup = false) : Does T ρ h (.box t x) (.ptr h.length 0) (h ++ [.row a.cells true]) := does_mem rfl rfl (by
  simp only [memOp, hT, hx]
  cases a <;> first | rfl | cases ht)
theorem s_boxC {t : Nat} {i : TI} {cs : List V} (hT : T t = some i) (hx : ρ.ev x = some a) (ht : a.isTup = false) (hc : a.cells = cs) : Does T ρ h (.box t x) (.ptr h.length 0) (h ++ [.row cs true]) := by
  subst hc; exact s_box hT hx ht
theorem s_builtin {bi : Builtin} {xs : Array Operand} {ts : Array Nat} {vs : List V} (hx : evs ρ.ev xs.toList = some vs) (hv : builtinP T bi ts.toList vs = some v) : Does T ρ h (.call { callee := .builtin bi, args := xs, argTypes := ts }) v h := does_pure rfl (by simp only [pureOp, hx, hv])
end steps

attribute [irreducible] Does Guard
end Go.Proofs.Ytjageapgbpdlhaa.VM
