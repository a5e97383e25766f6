/- THE SMALL MACHINE, part D: its operations without memory are the model's. -/
import Derived.Test.YtjageapgbpdlhaaVmC
namespace Go.Proofs.Ytjageapgbpdlhaa.VM
open Go
set_option linter.unusedVariables false
set_option linter.unusedSimpArgs false

variable {P : Program} {T : Tab} {μ : Mu}

theorem run_und {t : Nat} {d : TypeDesc} (h : P.underlying t = some d) (w : World) : (underlying t).run P w = .ok d w := by
  simp [underlying, h]
theorem run_info {t : Nat} {q : TypeInfo} (h : P.info? t = some q) (w : World) : (typeInfo t).run P w = .ok q w := by
  simp [typeInfo, h]
theorem run_size {t : Nat} {q : TypeInfo} (h : P.info? t = some q) (w : World) : (sizeOf t).run P w = .ok q.size w := by
  simp [sizeOf, run_info h]
theorem run_zero {t : Nat} {q : TypeInfo} {z : Value} (h : P.info? t = some q) (hz : q.zero = some z) (w : World) : (zeroValue t).run P w = .ok z w := by
  simp [zeroValue, run_info h, hz]

theorem run_value {s : Sem Value} {w w' : World} {x : Value} (h : s.run P w = .ok x w') : (do pure (Next.value (← s)) : Sem Next).run P w = .ok (.value x) w' := by
  simp [h]

theorem VR.int {k n} {w : Value} (h : VR μ (.int k n) w) : w = .int k n := by simpa only [VR] using h
theorem VR.bool {b} {w : Value} (h : VR μ (.bool b) w) : w = .bool b := by simpa only [VR] using h
theorem VR.str {b} {w : Value} (h : VR μ (.str b) w) : w = .string b := by simpa only [VR] using h
theorem VR.nils {w : Value} (h : VR μ .nils w) : w = .slice none 0 0 := by simpa only [VR] using h
theorem VR.nilp {w : Value} (h : VR μ .nilp w) : w = .pointer none := by simpa only [VR] using h
theorem VR.mk_int (k n) : VR μ (.int k n) (.int k n) := by simp only [VR]
theorem VR.mk_bool (b) : VR μ (.bool b) (.bool b) := by simp only [VR]
theorem VR.mk_str (b) : VR μ (.str b) (.string b) := by simp only [VR]
theorem VR.mk_nils : VR μ .nils (.slice none 0 0) := by simp only [VR]

mutual
theorem VR.of_const : ∀ (v : Value) {u : V}, V.of v = some u → VR μ u v
  | .int k n, _, h => by simp only [V.of, Option.some.injEq] at h; subst h; exact VR.mk_int _ _
  | .bool b, _, h => by simp only [V.of, Option.some.injEq] at h; subst h; exact VR.mk_bool _
  | .string s, _, h => by simp only [V.of, Option.some.injEq] at h; subst h; exact VR.mk_str _
  | .pointer none, _, h => by simp only [V.of, Option.some.injEq] at h; subst h; simp only [VR]
  | .slice none 0 0, _, h => by simp only [V.of, Option.some.injEq] at h; subst h; exact VR.mk_nils
  | .agg ⟨cs⟩, _, h => by
    simp only [V.of, Option.map_eq_some_iff] at h
    obtain ⟨us, hu, rfl⟩ := h
    obtain ⟨h1, h2⟩ := VRs.of_const cs hu
    simp only [VR]
    exact ⟨⟨cs⟩, rfl, h2, h1⟩
  | .slice none (n + 1) c, _, h => by simp [V.of] at h
  | .slice none 0 (c + 1), _, h => by simp [V.of] at h
  | .slice (some a) n c, _, h => by simp [V.of] at h
  | .pointer (some a), _, h => by simp [V.of] at h
  | .float _ _, _, h => by simp [V.of] at h
  | .complex _ _ _, _, h => by simp [V.of] at h
  | .map _, _, h => by simp [V.of] at h
  | .chan _, _, h => by simp [V.of] at h
  | .func _ _ _, _, h => by simp [V.of] at h
  | .nilFunc, _, h => by simp [V.of] at h
  | .iface _ _, _, h => by simp [V.of] at h
  | .nilIface, _, h => by simp [V.of] at h
  | .tuple _, _, h => by simp [V.of] at h
theorem VRs.of_const : ∀ (vs : List Value) {us : List V}, V.ofs vs = some us → VRs μ us vs ∧ ∀ u ∈ us, u.one = true
  | [], _, h => by simp only [V.ofs, Option.some.injEq] at h; subst h; simp [VRs]
  | v :: vs, _, h => by
    simp only [V.ofs] at h
    split at h
    · rename_i u us hu hus
      split at h
      · rename_i h1
        simp only [Option.some.injEq] at h
        subst h
        obtain ⟨k1, k2⟩ := VRs.of_const vs hus
        refine ⟨by simp only [VRs]; exact ⟨v, vs, rfl, VR.of_const v hu, k1⟩, fun x hx => ?_⟩
        simp only [List.mem_cons] at hx
        rcases hx with rfl | hx
        · exact h1
        · exact k2 x hx
      · cases h
    · cases h
end

theorem evs_sound {ρ : Operand → Option V} {ρc : Operand → Value} (hρ : ∀ x v, ρ x = some v → VR μ v (ρc x)) : ∀ (xs : List Operand) {vs : List V}, evs ρ xs = some vs → VRs μ vs (xs.map ρc)
  | [], _, h => by simp only [evs, Option.some.injEq] at h; subst h; simp [VRs]
  | x :: xs, _, h => by
    simp only [evs] at h
    split at h
    · rename_i v vs hv hvs
      simp only [Option.some.injEq] at h
      subst h
      simp only [List.map_cons, VRs]
      exact ⟨_, _, rfl, hρ x v hv, evs_sound hρ xs hvs⟩
    · cases h

theorem i64_wrap_of_nat {n : Nat} (h : n ≤ 9223372036854775807) : IntKind.i64.wrap n = n := by
  unfold IntKind.wrap
  simp [IntKind.bits, IntKind.signed]
  omega

theorem intBin_sound {op : BinOp} {k : IntKind} {a b : Int} {v : V} (h1 : op ≠ .shl) (h2 : op ≠ .shr) (h : intBin op k a b = some v) (t : Nat) :
    ∃ cv, VR μ v cv ∧ ∀ w, (Go.binOp op t (.int k a) (.int k b)).run P w = .ok cv w := by
  cases op <;> simp only [intBin, Option.some.injEq, reduceCtorEq] at h
  case quo =>
    split at h
    · cases h
    · rename_i hb
      simp only [Option.some.injEq] at h; subst h
      exact ⟨_, VR.mk_int _ _, fun w => by simp [Go.binOp, Op.intDiv, hb]⟩
  case rem =>
    split at h
    · cases h
    · rename_i hb
      simp only [Option.some.injEq] at h; subst h
      exact ⟨_, VR.mk_int _ _, fun w => by simp [Go.binOp, Op.intDiv, hb]⟩
  all_goals first
    | exact absurd rfl h1
    | exact absurd rfl h2
    | (subst h; first
        | exact ⟨_, VR.mk_int _ _, fun w => by simp [Go.binOp, Op.intArith, Op.intBits, Op.intCmp]⟩
        | exact ⟨_, VR.mk_bool _, fun w => by simp [Go.binOp, Op.intArith, Op.intBits, Op.intCmp]⟩)

theorem eqGuard_skip {op : BinOp} {t : Nat} {x y : Operand} {a b : Value} (h : ∀ cs, a ≠ .agg cs) (h' : a ≠ .nilIface) (w : World) : (eqGuard op t x y a b).run P w = .ok () w := by
  unfold eqGuard
  cases op <;> cases a <;> first | rfl | (exact absurd rfl (h _)) | (exact absurd rfl h')

theorem binGo {op : BinOp} {t u : Nat} {x y : Operand} {ρc : Operand → Value} {o : Oper} (ho : o.op = .binOp op t x y u) {cv : Value} {w : World}
    (hg : (eqGuard op t x y (ρc x) (ρc y)).run P w = .ok () w) (hr : (Go.binOp op t (ρc x) (ρc y)).run P w = .ok cv w) : (execOp ρc o).run P w = .ok (.value cv) w := by
  simp only [execOp, ho]
  refine run_value ?_
  simp [hg, hr]

theorem equal_bool {t : Nat} (hu : P.underlying t = some .bool) (p q : Bool) (d : Nat) (w : World) : (Op.equalIn (d + 1) t (.bool p) (.bool q)).run P w = .ok (p == q) w := by
  simp only [Op.equalIn, Sem.run_bind, run_und hu, Result.andThen_ok, Sem.run_pure]
theorem equal_nils {t e : Nat} (hu : P.underlying t = some (.slice e)) (d : Nat) (w : World) : (Op.equalIn (d + 1) t (.slice none 0 0) (.slice none 0 0)).run P w = .ok true w := by
  simp only [Op.equalIn, Sem.run_bind, run_und hu, Result.andThen_ok, Sem.run_pure, Option.isNone_none]
theorem equal_slice {t e : Nat} (hu : P.underlying t = some (.slice e)) (a : Addr) (n c : Nat) (d : Nat) (w : World) : (Op.equalIn (d + 1) t (.slice (some a) n c) (.slice none 0 0)).run P w = .ok false w := by
  simp only [Op.equalIn, Sem.run_bind, run_und hu, Result.andThen_ok, Sem.run_pure]
theorem run_eql {t : Nat} {x y : Value} {b : Bool} {w : World} (h : (Op.equal t x y).run P w = .ok b w) : (do pure (Value.bool (← Op.equal t x y)) : Sem Value).run P w = .ok (.bool b) w ∧ (do pure (Value.bool (!(← Op.equal t x y))) : Sem Value).run P w = .ok (.bool !b) w := by
  constructor <;> simp only [Sem.run_bind, h, Result.andThen_ok, Sem.run_pure]

theorem eqlOr_sound {op : BinOp} {b : Bool} {v : V} (h : eqlOr op (some b) = some v) {t : Nat} {x y : Value} {w : World}
    (hne : ∀ z : Bool, (Go.binOp .eql t x y).run P w = .ok (.bool b) w ∧ (Go.binOp .neq t x y).run P w = .ok (.bool !b) w) :
    ∃ cv, VR μ v cv ∧ (Go.binOp op t x y).run P w = .ok cv w := by
  cases op <;> simp only [eqlOr, Option.map_some, Option.some.injEq, reduceCtorEq] at h
  · subst h; exact ⟨_, VR.mk_bool _, (hne true).1⟩
  · subst h; exact ⟨_, VR.mk_bool _, (hne true).2⟩

theorem eqlOr_none {op : BinOp} {v : V} (h : eqlOr op none = some v) : False := by
  cases op <;> simp [eqlOr] at h

theorem vbin_sound (fit : Fits P T) {op : BinOp} {t u : Nat} {x y : Operand} {a b v : V} {ρc : Operand → Value} {o : Oper} (ho : o.op = .binOp op t x y u)
    (hx : VR μ a (ρc x)) (hy : VR μ b (ρc y)) (h : vbin T op t a b = some v) : ∃ cv, VR μ v cv ∧ ∀ w, (execOp ρc o).run P w = .ok (.value cv) w := by
  suffices hs : ∃ cv, VR μ v cv ∧ ∀ w, (eqGuard op t x y (ρc x) (ρc y)).run P w = .ok () w ∧ (Go.binOp op t (ρc x) (ρc y)).run P w = .ok cv w by
    obtain ⟨cv, h1, h2⟩ := hs
    exact ⟨cv, h1, fun w => binGo ho (h2 w).1 (h2 w).2⟩
  cases a with
  | int k m =>
    have ex := hx.int
    cases b with
    | int k' n =>
      have ey := hy.int
      rw [ex, ey]
      have hg : ∀ w, (eqGuard op t x y (Value.int k m) (Value.int k' n)).run P w = .ok () w := fun w => eqGuard_skip (by intro _ h; cases h) (by intro h; cases h) w
      by_cases hs : op = .shl ∨ op = .shr
      · have h' : shiftBin op k m n = some v := by rcases hs with rfl | rfl <;> simpa [vbin] using h
        unfold shiftBin at h'
        split at h'
        · cases h'
        · rename_i hn
          rcases hs with rfl | rfl
          · simp only [Option.some.injEq] at h'; subst h'
            exact ⟨_, VR.mk_int _ _, fun w => ⟨hg w, by simp [Go.binOp, Op.shift, hn]⟩⟩
          · simp only [Option.some.injEq] at h'; subst h'
            exact ⟨_, VR.mk_int _ _, fun w => ⟨hg w, by simp [Go.binOp, Op.shift, hn]⟩⟩
      · have h1 : op ≠ .shl := fun e => hs (.inl e)
        have h2 : op ≠ .shr := fun e => hs (.inr e)
        have h' : (if k = k' then intBin op k m n else none) = some v := by cases op <;> first | exact absurd rfl h1 | exact absurd rfl h2 | simpa [vbin] using h
        split at h'
        · rename_i hk
          subst hk
          obtain ⟨cv, hv1, hr⟩ := intBin_sound (μ := μ) (P := P) h1 h2 h' t
          exact ⟨cv, hv1, fun w => ⟨hg w, hr w⟩⟩
        · cases h'
    | _ => simp [vbin] at h
  | str s =>
    have ex := hx.str
    cases b with
    | str s' =>
      have ey := hy.str
      rw [ex, ey]
      have hg : ∀ w, (eqGuard op t x y (Value.string s) (Value.string s')).run P w = .ok () w := fun w => eqGuard_skip (by intro _ h; cases h) (by intro h; cases h) w
      simp only [vbin] at h
      cases op <;> simp only [strBin, Option.some.injEq, reduceCtorEq] at h
      case add =>
        split at h
        · cases h
        · rename_i hsz
          simp only [Option.some.injEq] at h; subst h
          exact ⟨_, VR.mk_str _, fun w => ⟨hg w, by simp only [Go.binOp, Op.stringOp]; rw [if_neg hsz]; rfl⟩⟩
      all_goals (subst h; exact ⟨_, VR.mk_bool _, fun w => ⟨hg w, by simp [Go.binOp, Op.stringOp]⟩⟩)
    | _ => simp [vbin] at h
  | bool p =>
    have ex := hx.bool
    cases b with
    | bool q =>
      have ey := hy.bool
      rw [ex, ey]
      have hg : ∀ w, (eqGuard op t x y (Value.bool p) (Value.bool q)).run P w = .ok () w := fun w => eqGuard_skip (by intro _ h; cases h) (by intro h; cases h) w
      simp only [vbin] at h
      split at h
      · rename_i hT
        have hu : P.underlying t = some .bool := (fit _ _ hT).kind
        have hb : ∀ w, (Go.binOp .eql t (.bool p) (.bool q)).run P w = .ok (.bool (p == q)) w ∧ (Go.binOp .neq t (.bool p) (.bool q)).run P w = .ok (.bool !(p == q)) w := fun w => by
          exact run_eql (equal_bool hu p q 9999 w)
        cases op <;> simp only [eqlOr, Option.map_some, Option.some.injEq, reduceCtorEq] at h
        · subst h; exact ⟨_, VR.mk_bool _, fun w => ⟨hg w, (hb w).1⟩⟩
        · subst h; exact ⟨_, VR.mk_bool _, fun w => ⟨hg w, (hb w).2⟩⟩
      · cases h
    | _ => simp [vbin] at h
  | agg xs =>
    cases b with
    | agg ys =>
      simp only [VR] at hx hy
      obtain ⟨cx, ex, _, hcx⟩ := hx
      obtain ⟨cy, ey, _, hcy⟩ := hy
      rw [ex, ey]
      simp only [vbin] at h
      split at h
      · rename_i ck cks hT
        cases he : eqs (ck :: cks) xs ys with
        | none => rw [he] at h; exact (eqlOr_none h).elim
        | some r =>
          rw [he] at h
          have hc := (fit _ _ hT).cmp nofun μ xs ys cx cy r hcx hcy he
          have hb : ∀ w, (Go.binOp .eql t (.agg cx) (.agg cy)).run P w = .ok (.bool r) w ∧ (Go.binOp .neq t (.agg cx) (.agg cy)).run P w = .ok (.bool !r) w := fun w => by
            exact run_eql (hc w).1
          cases op <;> simp only [eqlOr, Option.map_some, Option.some.injEq, reduceCtorEq] at h
          · subst h; exact ⟨_, VR.mk_bool _, fun w => ⟨(hc w).2 _ _ _, (hb w).1⟩⟩
          · subst h; exact ⟨_, VR.mk_bool _, fun w => ⟨(hc w).2 _ _ _, (hb w).2⟩⟩
      · cases h
    | _ => simp [vbin] at h
  | nils =>
    have ex := hx.nils
    cases b with
    | nils =>
      have ey := hy.nils
      rw [ex, ey]
      have hg : ∀ w, (eqGuard op t x y (Value.slice none 0 0) (Value.slice none 0 0)).run P w = .ok () w := fun w => eqGuard_skip (by intro _ h; cases h) (by intro h; cases h) w
      simp only [vbin] at h
      split at h
      · rename_i hT
        have hu : P.underlying t = some (.slice _) := (fit _ _ hT).kind
        have hb : ∀ w, (Go.binOp .eql t (.slice none 0 0) (.slice none 0 0)).run P w = .ok (.bool true) w ∧ (Go.binOp .neq t (.slice none 0 0) (.slice none 0 0)).run P w = .ok (.bool false) w := fun w => by
          exact run_eql (equal_nils hu 9999 w)
        cases op <;> simp only [eqlOr, Option.map_some, Option.some.injEq, reduceCtorEq] at h
        · subst h; exact ⟨_, VR.mk_bool _, fun w => ⟨hg w, (hb w).1⟩⟩
        · subst h; exact ⟨_, VR.mk_bool _, fun w => ⟨hg w, (hb w).2⟩⟩
      · cases h
    | _ => simp [vbin] at h
  | slc bb off len cap tt ssz =>
    cases b with
    | nils =>
      have ey := hy.nils
      simp only [VR] at hx
      obtain ⟨aa, c, ex, _⟩ := hx
      rw [ex, ey]
      have hg : ∀ w, (eqGuard op t x y (Value.slice (some aa) len c) (Value.slice none 0 0)).run P w = .ok () w := fun w => eqGuard_skip (by intro _ h; cases h) (by intro h; cases h) w
      simp only [vbin] at h
      split at h
      · rename_i hT
        have hu : P.underlying t = some (.slice _) := (fit _ _ hT).kind
        have hb : ∀ w, (Go.binOp .eql t (.slice (some aa) len c) (.slice none 0 0)).run P w = .ok (.bool false) w ∧ (Go.binOp .neq t (.slice (some aa) len c) (.slice none 0 0)).run P w = .ok (.bool true) w := fun w => by
          exact run_eql (equal_slice hu _ _ _ 9999 w)
        cases op <;> simp only [eqlOr, Option.map_some, Option.some.injEq, reduceCtorEq] at h
        · subst h; exact ⟨_, VR.mk_bool _, fun w => ⟨hg w, (hb w).1⟩⟩
        · subst h; exact ⟨_, VR.mk_bool _, fun w => ⟨hg w, (hb w).2⟩⟩
      · cases h
    | _ => simp [vbin] at h
  | _ => simp [vbin] at h

end Go.Proofs.Ytjageapgbpdlhaa.VM
