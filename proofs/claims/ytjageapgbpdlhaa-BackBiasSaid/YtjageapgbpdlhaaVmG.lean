/- THE SMALL MACHINE, part G: append. -/
import Derived.Test.YtjageapgbpdlhaaVmF
namespace Go.Proofs.Ytjageapgbpdlhaa.VM
open Go
set_option linter.unusedVariables false
set_option linter.unusedSimpArgs false

variable {P : Program} {T : Tab} {μ : Mu}

/-- what is appended, in the model -/
def appC (zs : Bool) (elem size n : Nat) (x : Value) : Sem (Array Value) :=
  if !zs then Builtin.firstCells size n x
  else if n * size = 0 then pure #[]
  else do pure (Builtin.zeroCells (← zeroValue elem).cells n)

structure News (P : Program) (t2 elem bytes size n : Nat) (x : Value) (zs : Bool) (ws : Array Value) (w : World) : Prop where
  und : (zs = true ∧ ∃ k, P.underlying t2 = some (.int k)) ∨ (zs = false ∧ ((∃ e, P.underlying t2 = some (.slice e)) ∨ P.underlying t2 = some .string))
  num : (zs = true ∧ ∃ k m, x = .int k m ∧ 0 ≤ m ∧ m ≤ IntKind.i64.max ∧ m * bytes ≤ 2 ^ 48 ∧ m.toNat = n) ∨ (zs = false ∧ ∀ w, (Builtin.lenOf x).run P w = .ok n w)
  app : ∀ w', w'.heap = w.heap → (appC zs elem size n x).run P w' = .ok ws w'

theorem wrap_id {m : Int} (h0 : 0 ≤ m) (h1 : m ≤ IntKind.i64.max) : IntKind.i64.wrap m = m := by
  have : m ≤ 9223372036854775807 := by simpa [IntKind.max, IntKind.signed, IntKind.bits] using h1
  obtain ⟨n, rfl⟩ := Int.eq_ofNat_of_zero_le h0
  exact i64_wrap_of_nat (by omega)

theorem append_fits {t1 t2 elem bytes size n ty : Nat} {q : TypeInfo} (ht : P.underlying t1 = some (.slice elem)) (hq : P.info? elem = some q) (hs : q.size = size) (hb : q.bytes = bytes) {x : Value} {zs : Bool} {ws : Array Value} {w : World}
    (h : News P t2 elem bytes size n x zs ws w) {base : Option Addr} {sLen sCap : Nat} (hfit : sLen + n ≤ sCap) :
    (Builtin.append_ #[t1, t2] ty #[.slice base sLen sCap, x]).run P w = match base with
      | some a => ((storeCells (a.add (sLen * size)) ws.toList).run P w).andThen fun _ w' => .ok (.slice (some a) (sLen + n) sCap) w'
      | none => .ok (.slice none (sLen + n) sCap) w := by
  obtain ⟨hund, hnum, happ⟩ := h
  have ha := happ w rfl
  unfold appC at ha
  subst hs
  subst hb
  rcases hund with ⟨rfl, k2, hd⟩ | ⟨rfl, hd⟩
  · rcases hnum with ⟨_, k, m, rfl, m0, m1, m2, m3⟩ | ⟨h', _⟩
    · have hw := wrap_id m0 m1
      simp only [Bool.not_true, Bool.false_eq_true, if_false] at ha
      unfold Builtin.append_
      simp only [List.getElem?_toArray, List.getElem?_cons_zero, List.getElem?_cons_succ, run_und ht, run_und hd, run_size hq, run_info hq, Sem.run_bind, Result.andThen_ok, Sem.run_pure, if_true, asInt, asIntOf, hw, Bool.not_true, Bool.false_eq_true, if_false]
      rw [if_neg (by omega)]
      simp only [Sem.run_bind, run_info hq, Result.andThen_ok]
      rw [if_neg (by omega)]
      simp only [Sem.run_pure, Sem.run_bind, Result.andThen_ok, m3]
      rw [if_pos hfit]
      simp only [Sem.run_bind, ha, Result.andThen_ok]
      cases base <;> simp
    · cases h'
  · rcases hnum with ⟨h', _⟩ | ⟨_, hl⟩
    · cases h'
    · simp only [Bool.not_false, if_true] at ha
      rcases hd with ⟨e2, hd⟩ | hd
      all_goals
        unfold Builtin.append_
        simp only [List.getElem?_toArray, List.getElem?_cons_zero, List.getElem?_cons_succ, run_und ht, run_und hd, run_size hq, run_info hq, Sem.run_bind, Result.andThen_ok, Sem.run_pure, if_true, Bool.false_eq_true, if_false, hl, Bool.not_false]
        rw [if_pos hfit]
        simp only [Sem.run_bind, ha, Result.andThen_ok]
        cases base <;> simp

theorem append_grows {t1 t2 elem bytes size n ty : Nat} {q : TypeInfo} {z : Value} (ht : P.underlying t1 = some (.slice elem)) (hq : P.info? elem = some q) (hz : q.zero = some z) (hs : q.size = size) (hb : q.bytes = bytes) (hzs : z.cells.size = size) {x : Value} {zs : Bool} {ws old : Array Value} {w : World}
    (h : News P t2 elem bytes size n x zs ws w) {base : Option Addr} {sLen sCap : Nat} (hfit : sCap < sLen + n) (hold : (Builtin.firstCells size sLen (.slice base sLen sCap)).run P w.drew = .ok old w.drew)
    (hbytes : (sLen + n) * bytes ≤ 2 ^ 47) (hlen : sLen + n ≤ 2 ^ 47) :
    ∃ rest, (Builtin.append_ #[t1, t2] ty #[.slice base sLen sCap, x]).run P w = .ok (.slice (some ⟨w.heap.size, 0, none⟩) (sLen + n) (grownCap w (sLen + n) sCap elem)) (w.drew.alloc (.cells (old ++ ws ++ rest) elem)) ∧
      rest.size = (grownCap w (sLen + n) sCap elem - (sLen + n)) * size := by
  obtain ⟨hund, hnum, happ⟩ := h
  have ha := happ w.drew rfl
  unfold appC at ha
  subst hs
  subst hb
  have hnext : Builtin.nextslicecap (sLen + n) sCap * q.bytes ≤ 2 ^ 48 := by
    have := nextslicecap_le hfit
    calc _ ≤ 2 * (sLen + n) * q.bytes := Nat.mul_le_mul_right _ this
      _ = 2 * ((sLen + n) * q.bytes) := by rw [Nat.mul_assoc]
      _ ≤ 2 * 2 ^ 47 := Nat.mul_le_mul_left _ hbytes
  have hmax : ∀ {p : Prop}, ¬ ((↑(sLen + n) : Int) > IntKind.i64.max ∧ p) := by
    intro p hc
    have := hc.1
    simp [IntKind.max, IntKind.signed, IntKind.bits] at this
    omega
  refine ⟨Builtin.zeroCells z.cells (grownCap w (sLen + n) sCap elem - (sLen + n)), ?_, by simp [Builtin.zeroCells, hzs]⟩
  rcases hund with ⟨rfl, k2, hd⟩ | ⟨rfl, hd⟩
  · rcases hnum with ⟨_, k, m, rfl, m0, m1, m2, m3⟩ | ⟨h', _⟩
    · have hw := wrap_id m0 m1
      simp only [Bool.not_true, Bool.false_eq_true, if_false] at ha
      unfold Builtin.append_
      simp only [List.getElem?_toArray, List.getElem?_cons_zero, List.getElem?_cons_succ, run_und ht, run_und hd, run_size hq, run_info hq, Sem.run_bind, Result.andThen_ok, Sem.run_pure, if_true, asInt, asIntOf, hw, Bool.not_true, Bool.false_eq_true, if_false]
      rw [if_neg (by omega)]
      simp only [Sem.run_bind, run_info hq, Result.andThen_ok]
      rw [if_neg (by omega)]
      simp only [Sem.run_pure, Sem.run_bind, Result.andThen_ok, m3]
      rw [if_neg (by omega)]
      simp only [Sem.run_bind, run_info hq, Result.andThen_ok]
      rw [if_neg hmax]
      simp only [Sem.run_bind, run_info hq, Result.andThen_ok]
      rw [if_neg (by omega)]
      simp only [Sem.run_bind, run_choose, Question.forced, Bool.false_eq_true, if_false, Result.andThen_ok, run_askRoom, World.drew_eq, run_info hq]
      rw [hold]
      simp only [Result.andThen_ok]
      rw [ha]
      simp only [Result.andThen_ok, run_zero hq hz, run_newRow, Sem.run_pure, World.size_drew]
      rfl
    · cases h'
  · rcases hnum with ⟨h', _⟩ | ⟨_, hl⟩
    · cases h'
    · simp only [Bool.not_false, if_true] at ha
      rcases hd with ⟨e2, hd⟩ | hd
      all_goals
        unfold Builtin.append_
        simp only [List.getElem?_toArray, List.getElem?_cons_zero, List.getElem?_cons_succ, run_und ht, run_und hd, run_size hq, run_info hq, Sem.run_bind, Result.andThen_ok, Sem.run_pure, if_true, Bool.false_eq_true, if_false, hl, Bool.not_false]
        rw [if_neg (by omega)]
        simp only [Sem.run_bind, run_info hq, Result.andThen_ok]
        rw [if_neg hmax]
        simp only [Sem.run_bind, run_info hq, Result.andThen_ok]
        rw [if_neg (by omega)]
        simp only [Sem.run_bind, run_choose, Question.forced, Bool.false_eq_true, if_false, Result.andThen_ok, run_askRoom, World.drew_eq, run_info hq]
        rw [hold]
        simp only [Result.andThen_ok]
        rw [ha]
        simp only [Result.andThen_ok, run_zero hq hz, run_newRow, Sem.run_pure, World.size_drew]
        rfl

end Go.Proofs.Ytjageapgbpdlhaa.VM
