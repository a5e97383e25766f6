/- THE SMALL MACHINE, part S: contracts of functions; the rule of loops. -/
import Derived.Test.YtjageapgbpdlhaaVmR
namespace Go.Proofs.Ytjageapgbpdlhaa.VM
open Go
set_option linter.unusedVariables false
set_option linter.unusedSimpArgs false

variable {P : Program} {T : Tab}

theorem wqO_mono {z : Heap → Prop} {op : Op} {ρ : Rho} {h : Heap} {K K' : V → Heap → Prop} (hk : ∀ v h', K v h' → K' v h') (hw : wqO P T z op ρ h K) : wqO P T z op ρ h K' := by
  unfold wqO at hw ⊢
  split at hw
  · split at hw
    · obtain ⟨v, h', a, b, c⟩ := hw; exact ⟨v, h', a, b, hk _ _ c⟩
    · exact hw.elim
  · split at hw
    · exact hk _ _ hw
    · exact hw.elim

theorem wqO_ex {z : Heap → Prop} {op : Op} {ρ : Rho} {h : Heap} {K : V → Heap → Prop} (hw : wqO P T z op ρ h K) : ∃ v h', K v h' ∧ wqO P T z op ρ h fun v1 h1 => v1 = v ∧ h1 = h' := by
  unfold wqO at hw ⊢
  split at hw
  · split at hw
    · obtain ⟨v, h', a, b, c⟩ := hw
      exact ⟨v, h', c, v, h', a, b, rfl, rfl⟩
    · exact hw.elim
  · split at hw
    · rename_i v h' hs
      exact ⟨v, h', hw, by simp⟩
    · exact hw.elim

theorem wqL_ex (ops : Array Oper) : ∀ (l : List Oper) {Q : Rho → Heap → Prop} {ρ : Rho} {h : Heap}, wqL P T ops l Q ρ h → ∃ ρ' h', Q ρ' h' ∧ wqL P T ops l (fun ρ1 h1 => ρ1 = ρ' ∧ h1 = h') ρ h
  | [], Q, ρ, h, hw => ⟨ρ, h, hw, rfl, rfl⟩
  | o :: rest, Q, ρ, h, hw => by
    simp only [wqL] at hw ⊢
    split at hw
    · rename_i hg
      obtain ⟨v, h1, hk, ho⟩ := wqO_ex hw
      obtain ⟨ρ', h', q, r⟩ := wqL_ex ops rest hk
      refine ⟨ρ', h', q, ?_⟩
      rw [if_pos hg]
      exact wqO_mono (fun v1 h2 ⟨e1, e2⟩ => by subst e1; subst e2; exact r) ho
    · rename_i hg
      obtain ⟨ρ', h', q, r⟩ := wqL_ex ops rest hw
      exact ⟨ρ', h', q, by rw [if_neg hg]; exact r⟩

theorem wqE_ex (ops : Array Oper) : ∀ (l : List Oper) (k : Nat) (ps : List PendR) {Q : Rho → Heap → Prop} {ρ : Rho} {h : Heap}, wqE P T ops k l ps Q ρ h → ∃ ρ' h', Q ρ' h' ∧ wqE P T ops k l ps (fun ρ1 h1 => ρ1 = ρ' ∧ h1 = h') ρ h
  | [], _, _, Q, ρ, h, hw => ⟨ρ, h, hw, rfl, rfl⟩
  | o :: rest, k, ps, Q, ρ, h, hw => by
    simp only [wqE] at hw ⊢
    split at hw
    · rename_i hg
      obtain ⟨v, h1, ⟨c1, c2, hk⟩, ho⟩ := wqO_ex hw
      obtain ⟨ρ', h', q, r⟩ := wqE_ex ops rest (k + 1) _ hk
      refine ⟨ρ', h', q, ?_⟩
      rw [if_pos hg]
      exact wqO_mono (fun v1 h2 ⟨e1, e2⟩ => by subst e1; subst e2; exact ⟨c1, c2, r⟩) ho
    · rename_i hg
      obtain ⟨ρ', h', q, r⟩ := wqE_ex ops rest (k + 1) ps hw
      exact ⟨ρ', h', q, by rw [if_neg hg]; exact r⟩

theorem wqL_mono (ops : Array Oper) : ∀ (l : List Oper) {Q Q' : Rho → Heap → Prop} {ρ : Rho} {h : Heap}, (∀ ρ h, Q ρ h → Q' ρ h) → wqL P T ops l Q ρ h → wqL P T ops l Q' ρ h
  | [], Q, Q', ρ, h, hk, hw => hk _ _ hw
  | o :: rest, Q, Q', ρ, h, hk, hw => by
    simp only [wqL] at hw ⊢
    split at hw
    · rename_i hg
      rw [if_pos hg]
      exact wqO_mono (fun v h' => wqL_mono ops rest hk) hw
    · rename_i hg
      rw [if_neg hg]
      exact wqL_mono ops rest hk hw

theorem wqE_mono (ops : Array Oper) : ∀ (l : List Oper) (k : Nat) (ps : List PendR) {Q Q' : Rho → Heap → Prop} {ρ : Rho} {h : Heap}, (∀ ρ h, Q ρ h → Q' ρ h) → wqE P T ops k l ps Q ρ h → wqE P T ops k l ps Q' ρ h
  | [], _, _, Q, Q', ρ, h, hk, hw => hk _ _ hw
  | o :: rest, k, ps, Q, Q', ρ, h, hk, hw => by
    simp only [wqE] at hw ⊢
    split at hw
    · rename_i hg
      rw [if_pos hg]
      exact wqO_mono (fun v h' ⟨c1, c2, c3⟩ => ⟨c1, c2, wqE_mono ops rest (k + 1) _ hk c3⟩) hw
    · rename_i hg
      rw [if_neg hg]
      exact wqE_mono ops rest (k + 1) ps hk hw

theorem Th_mono {n n' : Rho → Heap → Prop} {Q Q' : Exit → Rho → Heap → Prop} (h1 : ∀ ρ h, n ρ h → n' ρ h) (h2 : ∀ x ρ h, Q x ρ h → Q' x ρ h) : ∀ x ρ h, Th n Q x ρ h → Th n' Q' x ρ h := fun x ρ h hw => by
  cases x <;> first | exact h1 _ _ hw | exact h2 _ _ _ hw
theorem Bk_mono {id : Nat} {Q Q' : Exit → Rho → Heap → Prop} (h2 : ∀ x ρ h, Q x ρ h → Q' x ρ h) : ∀ x ρ h, Bk id Q x ρ h → Bk id Q' x ρ h := fun x ρ h hw => by
  cases x with
  | exit id' =>
    simp only [Bk] at hw ⊢
    split
    · rename_i e; rw [if_pos e] at hw; exact h2 _ _ _ hw
    · rename_i e; rw [if_neg e] at hw; exact h2 _ _ _ hw
  | _ => exact h2 _ _ _ hw

theorem wq_mono (c : Code) : ∀ {Q Q' : Exit → Rho → Heap → Prop} {ρ : Rho} {h : Heap}, (∀ x ρ h, Q x ρ h → Q' x ρ h) → wq P T c Q ρ h → wq P T c Q' ρ h := by
  induction c with
  | region id ops d => intro Q Q' ρ h hk hw; cases d <;> first | exact wqL_mono ops _ (hk .normal) hw | exact wqE_mono ops _ 0 [] (hk .normal) hw
  | seq a b iha ihb => intro Q Q' ρ h hk hw; exact iha (Th_mono (fun ρ h => ihb hk) hk) hw
  | cond c a b iha ihb =>
    intro Q Q' ρ h hk hw
    simp only [wq] at hw ⊢
    split at hw
    · rename_i t _
      cases t <;> simp only [Bool.false_eq_true, if_true, if_false] at hw ⊢
      · exact ihb hk hw
      · exact iha hk hw
    · exact hw.elim
  | block id c ih => intro Q Q' ρ h hk hw; exact ih (Bk_mono hk) hw
  | loop c ih =>
    intro Q Q' ρ h hk hw
    obtain ⟨n, hw⟩ := hw
    refine ⟨n, ?_⟩
    induction n generalizing ρ h with
    | zero => exact hw.elim
    | succ n ihn => exact ih (Th_mono (fun ρ h => ihn) hk) hw
  | rangeFunc f ps x y ihx ihy => intro Q Q' ρ h hk hw; exact hw.elim
  | scope c ih => intro Q Q' ρ h hk hw; exact hw.elim
  | refuse why => intro Q Q' ρ h hk hw; exact hw.elim
  | _ => intro Q Q' ρ h hk hw; exact hk _ _ _ hw

/-- it ends in one way -/
theorem wq_ex (c : Code) : ∀ {Q : Exit → Rho → Heap → Prop} {ρ : Rho} {h : Heap}, wq P T c Q ρ h → ∃ x ρ' h', Q x ρ' h' ∧ wq P T c (fun x1 ρ1 h1 => x1 = x ∧ ρ1 = ρ' ∧ h1 = h') ρ h := by
  induction c with
  | region id ops d =>
    intro Q ρ h hw
    cases d with
    | false =>
      obtain ⟨ρ', h', q, r⟩ := wqL_ex ops ops.toList (Q := Q .normal) hw
      exact ⟨_, ρ', h', q, wqL_mono ops _ (fun _ _ e => ⟨rfl, e⟩) r⟩
    | true =>
      obtain ⟨ρ', h', q, r⟩ := wqE_ex ops ops.toList 0 [] (Q := Q .normal) hw
      exact ⟨_, ρ', h', q, wqE_mono ops _ 0 [] (fun _ _ e => ⟨rfl, e⟩) r⟩
  | seq a b iha ihb =>
    intro Q ρ h hw
    obtain ⟨x, ρ1, h1, q, r⟩ := iha hw
    cases x with
    | normal =>
      obtain ⟨x2, ρ2, h2, q2, r2⟩ := ihb q
      refine ⟨x2, ρ2, h2, q2, wq_mono a (fun x ρ h e => ?_) r⟩
      obtain ⟨rfl, rfl, rfl⟩ := e
      exact r2
    | exit id => exact ⟨_, ρ1, h1, q, wq_mono a (fun x ρ h e => by obtain ⟨rfl, rfl, rfl⟩ := e; exact ⟨rfl, rfl, rfl⟩) r⟩
    | goto l => exact ⟨_, ρ1, h1, q, wq_mono a (fun x ρ h e => by obtain ⟨rfl, rfl, rfl⟩ := e; exact ⟨rfl, rfl, rfl⟩) r⟩
    | ret => exact ⟨_, ρ1, h1, q, wq_mono a (fun x ρ h e => by obtain ⟨rfl, rfl, rfl⟩ := e; exact ⟨rfl, rfl, rfl⟩) r⟩
    | panic ch => exact ⟨_, ρ1, h1, q, wq_mono a (fun x ρ h e => by obtain ⟨rfl, rfl, rfl⟩ := e; exact ⟨rfl, rfl, rfl⟩) r⟩
    | outgrown => exact ⟨_, ρ1, h1, q, wq_mono a (fun x ρ h e => by obtain ⟨rfl, rfl, rfl⟩ := e; exact ⟨rfl, rfl, rfl⟩) r⟩
  | cond c a b iha ihb =>
    intro Q ρ h hw
    simp only [wq] at hw
    split at hw
    · rename_i t ht
      cases t <;> simp only [Bool.false_eq_true, if_true, if_false] at hw
      · obtain ⟨x, ρ1, h1, q, r⟩ := ihb hw
        exact ⟨x, ρ1, h1, q, by simp only [wq, ht]; simpa using r⟩
      · obtain ⟨x, ρ1, h1, q, r⟩ := iha hw
        exact ⟨x, ρ1, h1, q, by simp only [wq, ht]; simpa using r⟩
    · exact hw.elim
  | block id c ih =>
    intro Q ρ h hw
    obtain ⟨x, ρ1, h1, q, r⟩ := ih hw
    cases x with
    | exit id' =>
      by_cases e : id' = id
      · refine ⟨.normal, ρ1, h1, by simpa [Bk, e] using q, wq_mono c (fun x ρ h e' => ?_) r⟩
        obtain ⟨rfl, rfl, rfl⟩ := e'
        simp [Bk, e]
      · refine ⟨.exit id', ρ1, h1, by simpa [Bk, e] using q, wq_mono c (fun x ρ h e' => ?_) r⟩
        obtain ⟨rfl, rfl, rfl⟩ := e'
        simp [Bk, e]
    | normal => exact ⟨_, ρ1, h1, q, wq_mono c (fun x ρ h e => by obtain ⟨rfl, rfl, rfl⟩ := e; exact ⟨rfl, rfl, rfl⟩) r⟩
    | goto l => exact ⟨_, ρ1, h1, q, wq_mono c (fun x ρ h e => by obtain ⟨rfl, rfl, rfl⟩ := e; exact ⟨rfl, rfl, rfl⟩) r⟩
    | ret => exact ⟨_, ρ1, h1, q, wq_mono c (fun x ρ h e => by obtain ⟨rfl, rfl, rfl⟩ := e; exact ⟨rfl, rfl, rfl⟩) r⟩
    | panic ch => exact ⟨_, ρ1, h1, q, wq_mono c (fun x ρ h e => by obtain ⟨rfl, rfl, rfl⟩ := e; exact ⟨rfl, rfl, rfl⟩) r⟩
    | outgrown => exact ⟨_, ρ1, h1, q, wq_mono c (fun x ρ h e => by obtain ⟨rfl, rfl, rfl⟩ := e; exact ⟨rfl, rfl, rfl⟩) r⟩
  | loop c ih =>
    intro Q ρ h hw
    obtain ⟨n, hw⟩ := hw
    have : ∃ x ρ' h', Q x ρ' h' ∧ roundsR (wq P T c) (fun x1 ρ1 h1 => x1 = x ∧ ρ1 = ρ' ∧ h1 = h') n ρ h := by
      induction n generalizing ρ h with
      | zero => exact hw.elim
      | succ n ihn =>
        obtain ⟨x, ρ1, h1, q, r⟩ := ih hw
        cases x with
        | normal =>
          obtain ⟨x2, ρ2, h2, q2, r2⟩ := ihn q
          refine ⟨x2, ρ2, h2, q2, wq_mono c (fun x ρ h e => ?_) r⟩
          obtain ⟨rfl, rfl, rfl⟩ := e
          exact r2
        | exit id => exact ⟨_, ρ1, h1, q, wq_mono c (fun x ρ h e => by obtain ⟨rfl, rfl, rfl⟩ := e; exact ⟨rfl, rfl, rfl⟩) r⟩
        | goto l => exact ⟨_, ρ1, h1, q, wq_mono c (fun x ρ h e => by obtain ⟨rfl, rfl, rfl⟩ := e; exact ⟨rfl, rfl, rfl⟩) r⟩
        | ret => exact ⟨_, ρ1, h1, q, wq_mono c (fun x ρ h e => by obtain ⟨rfl, rfl, rfl⟩ := e; exact ⟨rfl, rfl, rfl⟩) r⟩
        | panic ch => exact ⟨_, ρ1, h1, q, wq_mono c (fun x ρ h e => by obtain ⟨rfl, rfl, rfl⟩ := e; exact ⟨rfl, rfl, rfl⟩) r⟩
        | outgrown => exact ⟨_, ρ1, h1, q, wq_mono c (fun x ρ h e => by obtain ⟨rfl, rfl, rfl⟩ := e; exact ⟨rfl, rfl, rfl⟩) r⟩
    obtain ⟨x, ρ', h', q, r⟩ := this
    exact ⟨x, ρ', h', q, n, r⟩
  | rangeFunc f ps x y ihx ihy => intro Q ρ h hw; exact hw.elim
  | scope c ih => intro Q ρ h hw; exact hw.elim
  | refuse why => intro Q ρ h hw; exact hw.elim
  | _ => intro Q ρ h hw; exact ⟨_, ρ, h, hw, rfl, rfl, rfl⟩

/-- A FUNCTION's CONTRACT -/
theorem call_wq (fit : Fits P T) (hm : P.follows .mixedOrders = true) {f : Nat} {fn : Func} {c : Code} {args : List V} {H : Heap} {R : V → Heap → Prop} {rs : List ResultVar} (hf : P.funcs[f]? = some fn) (hb : fn.body = some c) (hn : (fn.name == "runtime.NumGoroutine") = false)
    (hrs : fn.results = ⟨rs⟩) (hok : funcOk fn c args.length = true) (h : wq P T c (EndR T rs R) (rho0 args) H) : ∃ v H', R v H' ∧ Call P f args H v H' := by
  obtain rfl : rs = fn.results.toList := by rw [hrs]
  simp only [funcOk, Bool.and_eq_true, decide_eq_true_eq] at hok
  obtain ⟨⟨hc, hr⟩, hk⟩ := hok
  obtain ⟨x, ρ', h', q, r⟩ := wq_ex c h
  have ha : Agree fn.ntmps (rho0 args) (args ++ List.replicate (fn.ntmps - args.length) V.undef) := by
    refine ⟨by simp; omega, fun t ht => ?_⟩
    unfold rho0
    by_cases hta : t < args.length
    · rw [List.getElem?_append_left hta]; simp [List.getD_eq_getElem?_getD, hta]
    · rw [List.getElem?_append_right (by omega)]
      simp [List.getD_eq_getElem?_getD, List.getElem?_replicate]
      rw [List.getElem?_eq_none (by omega)]
      exact ⟨by omega, rfl⟩
  have q' : (x = .normal ∨ x = .ret) ∧ ∃ v, resRf T fn.results.toList ρ' h' = some v ∧ R v h' := by
    cases x <;> simp only [EndR] at q
    · exact ⟨.inl rfl, q⟩
    · exact ⟨.inr rfl, q⟩
  obtain ⟨hx, v, hv, hR⟩ := q'
  refine ⟨v, h', hR, call_of_wp fit hm hf hb hn ?_⟩
  refine wq_wp c hc _ _ (fun x1 ρ1 e1 h1 ha1 hq => ?_) _ _ H ha r
  obtain ⟨rfl, rfl, rfl⟩ := hq
  have : resOf T fn e1 h1 = some v := by
    unfold resOf
    rw [resR_eq ha1 hr]
    exact hv
  rcases hx with rfl | rfl <;> exact ⟨this, rfl⟩

/-- a function that answers plainly leaves nothing that is looked at -/
theorem call_plain (fit : Fits P T) (hm : P.follows .mixedOrders = true) {f : Nat} {fn : Func} {c : Code} {args : List V} {H : Heap} {v : V} {rs : List ResultVar} (hf : P.funcs[f]? = some fn) (hb : fn.body = some c) (hn : (fn.name == "runtime.NumGoroutine") = false)
    (hrs : fn.results = ⟨rs⟩) (hok : funcOk fn c args.length = true) (hv : v.plain = true) (h : wq P T c (EndR T rs fun v' h' => v' = v ∧ H <+: h') (rho0 args) H) : Call P f args H v H := by
  obtain ⟨v', H', ⟨rfl, hp⟩, hc⟩ := call_wq fit hm hf hb hn hrs hok h
  exact hc.forget hp hv

/-- THE RULE OF LOOPS -/
theorem wq_loop {c : Code} {Q : Exit → Rho → Heap → Prop} (I : Nat → Rho → Heap → Prop) {m : Nat} {ρ : Rho} {h : Heap} (h0 : I m ρ h)
    (step : ∀ m ρ h, I m ρ h → wq P T c (Th (fun ρ' h' => ∃ m', m' < m ∧ I m' ρ' h') Q) ρ h) : wq P T (.loop c) Q ρ h := by
  refine ⟨m + 1, ?_⟩
  induction m using Nat.strongRecOn generalizing ρ h with
  | _ m ih =>
    refine wq_mono c ?_ (step m ρ h h0)
    intro x ρ' h' hq
    cases x with
    | normal =>
      obtain ⟨m', hm', hI⟩ := hq
      have := ih m' hm' hI
      have up : ∀ (a b : Nat), a ≤ b → ∀ ρ h, roundsR (wq P T c) Q a ρ h → roundsR (wq P T c) Q b ρ h := by
        intro a
        induction a with
        | zero => intro b _ ρ h hr; exact hr.elim
        | succ a iha =>
          intro b hab ρ h hr
          obtain ⟨b, rfl⟩ : ∃ d, b = d + 1 := ⟨b - 1, by omega⟩
          exact wq_mono c (Th_mono (fun ρ h => iha b (by omega) ρ h) (fun _ _ _ q => q)) hr
      exact up (m' + 1) m (by omega) _ _ this
    | exit id => exact hq
    | goto l => exact hq
    | ret => exact hq
    | panic ch => exact hq
    | outgrown => exact hq

end Go.Proofs.Ytjageapgbpdlhaa.VM
