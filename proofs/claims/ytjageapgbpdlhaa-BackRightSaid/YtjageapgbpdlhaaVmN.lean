/- THE SMALL MACHINE, part N: code, calls. -/
import Derived.Test.YtjageapgbpdlhaaVmM
import Derived.LoopN
namespace Go.Proofs.Ytjageapgbpdlhaa.VM
open Go
set_option linter.unusedVariables false
set_option linter.unusedSimpArgs false
set_option linter.unusedSectionVars false

variable {P : Program} {T : Tab}

/-- operations one behind the other -/
def wpL (P : Program) (T : Tab) (ops : Array Oper) : List Oper → (Env → Heap → Prop) → Env → Heap → Prop
  | [], Q, e, h => Q e h
  | o :: rest, Q, e, h => (guardOf ops e o = true ∧ ∃ v h', Step P T e h o.op v h' ∧ wpL P T ops rest Q (e.put o.dst v) h') ∨ (guardOf ops e o = false ∧ wpL P T ops rest Q (e.put o.dst V.undef) h)

/-- a load that may yet be done, and what it comes to -/
structure Pend where
  e : Env
  op : Op
  v : V
def Pend.holds (T : Tab) (h : Heap) (p : Pend) : Prop := memOp T p.e.ev h p.op = some (p.v, h)

/-- operations whose order is open -/
def wpD (P : Program) (T : Tab) (ops : Array Oper) : Nat → List Oper → List Pend → (Env → Heap → Prop) → Env → Heap → Prop
  | _, [], _, Q, e, h => Q e h
  | k, o :: rest, pe, Q, e, h => (guardOf ops e o = true ∧ ∃ v h', Step P T e h o.op v h' ∧ h.length ≤ h'.length ∧ (h <+: h' ∨ barrier ops k = true) ∧ (∀ p ∈ pe, p.holds T h') ∧ (lateAt ops k = true → v.under h'.length = true) ∧
      wpD P T ops (k + 1) rest (if lateAt ops k = true then ⟨e, o.op, v⟩ :: pe else pe) Q (e.put o.dst v) h') ∨
    (guardOf ops e o = false ∧ wpD P T ops (k + 1) rest pe Q (e.put o.dst V.undef) h)

def Ex.then (next : Env → Heap → Prop) (Q : Exit → Env → Heap → Prop) : Exit → Env → Heap → Prop
  | .normal, e, h => next e h
  | x, e, h => Q x e h
def Ex.inBlock (id : Nat) (Q : Exit → Env → Heap → Prop) : Exit → Env → Heap → Prop
  | .exit id', e, h => if id' = id then Q .normal e h else Q (.exit id') e h
  | x, e, h => Q x e h

def rounds (f : (Exit → Env → Heap → Prop) → Env → Heap → Prop) (Q : Exit → Env → Heap → Prop) : Nat → Env → Heap → Prop
  | 0, _, _ => False
  | n + 1, e, h => f (Ex.then (rounds f Q n) Q) e h

def wp (P : Program) (T : Tab) : Code → (Exit → Env → Heap → Prop) → Env → Heap → Prop
  | .skip, Q, e, h => Q .normal e h
  | .label _, Q, e, h => Q .normal e h
  | .region _ ops false, Q, e, h => wpL P T ops ops.toList (Q .normal) e h
  | .region _ ops true, Q, e, h => drawOk ops = true ∧ wpD P T ops 0 ops.toList [] (Q .normal) e h
  | .seq a b, Q, e, h => wp P T a (Ex.then (wp P T b Q) Q) e h
  | .cond c x y, Q, e, h => ∃ t, e.ev c = some (.bool t) ∧ ((t = true ∧ wp P T x Q e h) ∨ (t = false ∧ wp P T y Q e h))
  | .block id c, Q, e, h => wp P T c (Ex.inBlock id Q) e h
  | .loop c, Q, e, h => ∃ n, rounds (wp P T c) Q n e h
  | .exit id, Q, e, h => Q (.exit id) e h
  | .goto l, Q, e, h => Q (.goto l) e h
  | .ret, Q, e, h => Q .ret e h
  | _, _, _, _ => False

/-- the two machines behind some code -/
def Post (Q : Exit → Env → Heap → Prop) (μ : Mu) (h : Heap) (w : World) : Exit → Act → World → Prop := fun x a' w' => ∃ e' h' μ', Q x e' h' ∧ Sim μ' h' w' ∧ EnvR μ' e' a'.tmps ∧ Tr μ h w μ' h' w' ∧ a'.defers = []

theorem put_defers (a : Act) (d : Option Tmp) (v : Value) : (a.put d v).defers = a.defers := by cases d <;> rfl

theorem wpL_sim (fit : Fits P T) (ops : Array Oper) {Q : Exit → Env → Heap → Prop} {μ0 : Mu} {h0 : Heap} {w0 : World} (hl0 : ∀ b x, μ0 b = some x → b < h0.length) : ∀ (l : List Oper) (e : Env) (h : Heap), wpL P T ops l (Q .normal) e h → ∀ (μ : Mu) (a : Act) (w : World), Sim μ h w → EnvR μ e a.tmps → Tr μ0 h0 w0 μ h w → a.defers = [] →
    wpList P ops (Post Q μ0 h0 w0) l a w
  | [], e, h, hw, μ, a, w, s, he, t, hd => ⟨e, h, μ, hw, s, he, t, hd⟩
  | o :: rest, e, h, hw, μ, a, w, s, he, t, hd => by
    have hg := guard_beyond (ops := ops) he o
    unfold wpList
    simp only [wpL] at hw
    rcases hw with ⟨hgo, v, h', st, hrest⟩ | ⟨hgo, hrest⟩
    · rw [hg, hgo]
      simp only [if_true]
      refine .inl (op_sim fit s (he.looks o.op) st fun cv w' μ' hv s' t' => ?_)
      refine wpL_sim fit ops hl0 rest _ _ hrest μ' _ w' s' ?_ (t.trans t' hl0) (by rw [put_defers]; exact hd)
      exact EnvR.put (μ := μ') (he.mono t'.ext) o.dst hv
    · rw [hg, hgo]
      simp only [Bool.false_eq_true, if_false]
      exact wpL_sim fit ops hl0 rest _ _ hrest μ _ w s (EnvR.put he o.dst VR.undef) t (by rw [put_defers]; exact hd)

theorem wpD_run (ops : Array Oper) {Q : Env → Heap → Prop} : ∀ (l : List Oper) (k : Nat) (pe : List Pend) (e : Env) (h : Heap), (∀ i, l[i]? = ops[k + i]?) → (∀ p ∈ pe, p.holds T h) → wpD P T ops k l pe Q e h →
    ∃ (E : Nat → Env) (Hs : Nat → Heap), E k = e ∧ Hs k = h ∧ Q (E (k + l.length)) (Hs (k + l.length)) ∧ (∀ (j : Nat) o, k ≤ j → ops[j]? = some o →
      (guardOf ops (E j) o = true ∧ ∃ v, Step P T (E j) (Hs j) o.op v (Hs (j + 1)) ∧ E (j + 1) = (E j).put o.dst v ∧ (Hs j).length ≤ (Hs (j + 1)).length ∧ (Hs j <+: Hs (j + 1) ∨ barrier ops j = true)) ∨
      (guardOf ops (E j) o = false ∧ E (j + 1) = (E j).put o.dst V.undef ∧ Hs (j + 1) = Hs j)) ∧
      (∀ p ∈ pe, ∀ m, k ≤ m → m ≤ k + l.length → p.holds T (Hs m)) ∧
      (∀ (j : Nat) o, k ≤ j → ops[j]? = some o → lateAt ops j = true → guardOf ops (E j) o = true → ∃ v, E (j + 1) = (E j).put o.dst v ∧ v.under (Hs (j + 1)).length = true ∧ ∀ m, j ≤ m → m ≤ k + l.length → memOp T (E j).ev (Hs m) o.op = some (v, Hs m))
  | [], k, pe, e, h, hl, hpe, hw => ⟨fun _ => e, fun _ => h, rfl, rfl, hw, fun j o hj ho => by
      exfalso
      have := hl (j - k)
      rw [show k + (j - k) = j by omega, ho] at this
      simp at this, fun p hp m _ _ => hpe p hp, fun j o hj ho => by
      exfalso
      have := hl (j - k)
      rw [show k + (j - k) = j by omega, ho] at this
      simp at this⟩
  | o :: rest, k, pe, e, h, hl, hpe, hw => by
    have hk : ops[k]? = some o := by simpa using (hl 0).symm
    have hl' : ∀ i, rest[i]? = ops[k + 1 + i]? := fun i => by have := hl (i + 1); simp only [List.getElem?_cons_succ] at this; rw [this]; congr 1; omega
    have glue : ∀ {e1 h1 pe1}, wpD P T ops (k + 1) rest pe1 Q e1 h1 → (∀ p ∈ pe1, p.holds T h1) → (∀ p ∈ pe, p ∈ pe1) →
        ((guardOf ops e o = true ∧ ∃ v, Step P T e h o.op v h1 ∧ e1 = e.put o.dst v ∧ h.length ≤ h1.length ∧ (h <+: h1 ∨ barrier ops k = true) ∧ (lateAt ops k = true → v.under h1.length = true ∧ memOp T e.ev h o.op = some (v, h) ∧ (⟨e, o.op, v⟩ : Pend) ∈ pe1)) ∨ (guardOf ops e o = false ∧ e1 = e.put o.dst V.undef ∧ h1 = h)) →
        ∃ (E : Nat → Env) (Hs : Nat → Heap), E k = e ∧ Hs k = h ∧ Q (E (k + (o :: rest).length)) (Hs (k + (o :: rest).length)) ∧ (∀ (j : Nat) o, k ≤ j → ops[j]? = some o →
          (guardOf ops (E j) o = true ∧ ∃ v, Step P T (E j) (Hs j) o.op v (Hs (j + 1)) ∧ E (j + 1) = (E j).put o.dst v ∧ (Hs j).length ≤ (Hs (j + 1)).length ∧ (Hs j <+: Hs (j + 1) ∨ barrier ops j = true)) ∨
          (guardOf ops (E j) o = false ∧ E (j + 1) = (E j).put o.dst V.undef ∧ Hs (j + 1) = Hs j)) ∧
          (∀ p ∈ pe, ∀ m, k ≤ m → m ≤ k + (o :: rest).length → p.holds T (Hs m)) ∧
          (∀ (j : Nat) o', k ≤ j → ops[j]? = some o' → lateAt ops j = true → guardOf ops (E j) o' = true → ∃ v, E (j + 1) = (E j).put o'.dst v ∧ v.under (Hs (j + 1)).length = true ∧ ∀ m, j ≤ m → m ≤ k + (o :: rest).length → memOp T (E j).ev (Hs m) o'.op = some (v, Hs m)) := by
      intro e1 h1 pe1 hr hp1 hsub hs
      obtain ⟨E1, H1, a1, a2, a3, a4, a5, a6⟩ := wpD_run ops rest (k + 1) pe1 e1 h1 hl' hp1 hr
      have hE : ∀ j, k + 1 ≤ j → (if j = k then e else E1 j) = E1 j := fun j hj => if_neg (by omega)
      have hH : ∀ j, k + 1 ≤ j → (if j = k then h else H1 j) = H1 j := fun j hj => if_neg (by omega)
      have hlen : (o :: rest).length = rest.length + 1 := rfl
      refine ⟨fun j => if j = k then e else E1 j, fun j => if j = k then h else H1 j, by simp, by simp, ?_, fun j o' hj ho' => ?_, fun p hp m h1' h2' => ?_, fun j o' hj ho' hlt hg => ?_⟩
      · rw [hlen]
        simp only
        rw [hE _ (by omega), hH _ (by omega), show k + (rest.length + 1) = k + 1 + rest.length by omega]
        exact a3
      · by_cases hjk : j = k
        · subst hjk
          rw [hk] at ho'
          obtain rfl := Option.some.inj ho'
          simp only [if_true]
          rw [hE _ (by omega), hH _ (by omega), a1, a2]
          rcases hs with ⟨g, v, b1, b2, b3, b4, _⟩ | hs
          · exact .inl ⟨g, v, b1, b2, b3, b4⟩
          · exact .inr hs
        · simp only [hjk, if_false]
          rw [hE _ (by omega), hH _ (by omega)]
          exact a4 j o' (by omega) ho'
      · by_cases hmk : m = k
        · subst hmk; simp only [if_true]; exact hpe p hp
        · simp only [hmk, if_false]
          exact a5 p (hsub p hp) m (by omega) (by omega)
      · by_cases hjk : j = k
        · subst hjk
          rw [hk] at ho'
          obtain rfl := Option.some.inj ho'
          simp only [if_true] at hg ⊢
          rw [hE _ (by omega), hH _ (by omega), a1, a2]
          rcases hs with ⟨g, v, b1, b2, b3, b4, b5⟩ | ⟨g, _⟩
          · obtain ⟨c1, c2, c3⟩ := b5 hlt
            refine ⟨v, b2, c1, fun m m1 m2 => ?_⟩
            by_cases hmj : m = j
            · subst hmj; simp only [if_true]; exact c2
            · simp only [hmj, if_false]
              exact a5 _ c3 m (by omega) (by omega)
          · rw [g] at hg; cases hg
        · simp only [hjk, if_false] at hg ⊢
          rw [hE _ (by omega), hH _ (by omega)]
          obtain ⟨v, c1, c2, c3⟩ := a6 j o' (by omega) ho' hlt hg
          refine ⟨v, c1, c2, fun m m1 m2 => ?_⟩
          rw [hH _ (by omega)]
          exact c3 m m1 (by omega)
    simp only [wpD] at hw
    rcases hw with ⟨hgo, v, h', st, hln, hq, hp, hu, hrest⟩ | ⟨hgo, hrest⟩
    · have hst : lateAt ops k = true → memOp T e.ev h o.op = some (v, h) ∧ h' = h := fun hlt => by
        obtain ⟨t, x, eo⟩ := lateAt_load hlt hk
        rw [eo] at st ⊢
        exact st.load_same
      refine glue hrest (fun p hp' => ?_) (fun p hp' => ?_) (.inl ⟨hgo, v, st, rfl, hln, hq, fun hlt => ⟨hu hlt, (hst hlt).1, by rw [if_pos hlt]; simp⟩⟩)
      · split at hp'
        · rename_i hlt
          rcases List.mem_cons.1 hp' with rfl | hp'
          · obtain ⟨c1, c2⟩ := hst hlt
            show memOp T e.ev h' o.op = some (v, h')
            rw [c2]; exact c1
          · exact hp p hp'
        · exact hp p hp'
      · split
        · exact List.mem_cons_of_mem _ hp'
        · exact hp'
    · exact glue hrest hpe (fun p hp' => hp') (.inr ⟨hgo, rfl, rfl⟩)

theorem Post.trans {Q : Exit → Env → Heap → Prop} {μ μ1 : Mu} {h h1 : Heap} {w w1 : World} (t : Tr μ h w μ1 h1 w1) (hl : ∀ b x, μ b = some x → b < h.length) {x : Exit} {a' : Act} {w' : World} (p : Post Q μ1 h1 w1 x a' w') : Post Q μ h w x a' w' := by
  obtain ⟨e', h', μ', q, s, he, t', hd⟩ := p
  exact ⟨e', h', μ', q, s, he, t.trans t' hl, hd⟩

theorem wp_sim (fit : Fits P T) (hm : P.follows .mixedOrders = true) (c : Code) : ∀ (Q : Exit → Env → Heap → Prop) (e : Env) (h : Heap), wp P T c Q e h → ∀ (μ : Mu) (a : Act) (w : World), Sim μ h w → EnvR μ e a.tmps → a.defers = [] → c.wp P (Post Q μ h w) a w := by
  induction c with
  | skip => intro Q e h hw μ a w s he hd; exact Go.wp_skip ⟨e, h, μ, hw, s, he, Tr.refl _ _ _, hd⟩
  | label l => intro Q e h hw μ a w s he hd; exact Go.wp_label ⟨e, h, μ, hw, s, he, Tr.refl _ _ _, hd⟩
  | exit id => intro Q e h hw μ a w s he hd; exact Go.wp_exit ⟨e, h, μ, hw, s, he, Tr.refl _ _ _, hd⟩
  | goto l => intro Q e h hw μ a w s he hd; exact Go.wp_goto ⟨e, h, μ, hw, s, he, Tr.refl _ _ _, hd⟩
  | ret => intro Q e h hw μ a w s he hd; exact Go.wp_ret ⟨e, h, μ, hw, s, he, Tr.refl _ _ _, hd⟩
  | region id ops draw =>
    intro Q e h hw μ a w s he hd
    cases draw with
    | false => exact wp_region_list (wpL_sim fit ops (fun b x hx => (s.lt b x hx).1) _ e h hw μ a w s he (Tr.refl _ _ _) hd)
    | true =>
      obtain ⟨ok, hw⟩ := hw
      obtain ⟨E, Hs, e0, h0, hq, hs, _, hlate⟩ := wpD_run ops ops.toList 0 [] e h (fun i => by simp) (fun p hp => by simp at hp) hw
      subst e0
      subst h0
      refine draw_sim fit hm ⟨fun k o ho => hs k o (Nat.zero_le _) ho, fun k o ho hlt hg => ?_⟩ ok s he hd fun a' w' ⟨μ', s', he', t', hd'⟩ => ?_
      · obtain ⟨v, c1, c2, c3⟩ := hlate k o (Nat.zero_le _) ho hlt hg
        exact ⟨v, c1, c2, fun m m1 m2 => c3 m m1 (by simpa using m2)⟩
      refine ⟨E ops.size, Hs ops.size, μ', ?_, s', he', t', hd'⟩
      simpa using hq
  | seq x y ihx ihy =>
    intro Q e h hw μ a w s he hd
    refine Go.wp_seq (Code.wp_mono ?_ (ihx _ e h hw μ a w s he hd))
    intro ex a' w' p
    obtain ⟨e', h', μ', q, s', he', t', hd'⟩ := p
    cases ex with
    | normal =>
      refine Code.wp_mono (fun ex2 a2 w2 p2 => ?_) (ihy Q e' h' q μ' a' w' s' he' hd')
      exact p2.trans t' (fun b x hx => (s.lt b x hx).1)
    | exit id => exact ⟨e', h', μ', q, s', he', t', hd'⟩
    | goto l => exact ⟨e', h', μ', q, s', he', t', hd'⟩
    | ret => exact ⟨e', h', μ', q, s', he', t', hd'⟩
    | panic ch => exact ⟨e', h', μ', q, s', he', t', hd'⟩
    | outgrown => exact ⟨e', h', μ', q, s', he', t', hd'⟩
  | cond c x y ihx ihy =>
    intro Q e h hw μ a w s he hd
    obtain ⟨t, hc, hb⟩ := hw
    have hv := he.looks (.move c) c (by simp [Op.operands]) _ hc
    rcases hb with ⟨rfl, hb⟩ | ⟨rfl, hb⟩
    · exact Go.wp_cond_true hv.bool (ihx Q e h hb μ a w s he hd)
    · exact Go.wp_cond_false hv.bool (ihy Q e h hb μ a w s he hd)
  | block id c ih =>
    intro Q e h hw μ a w s he hd
    refine Go.wp_block (Code.wp_mono ?_ (ih _ e h hw μ a w s he hd))
    intro ex a' w' p
    obtain ⟨e', h', μ', q, s', he', t', hd'⟩ := p
    cases ex with
    | exit id' =>
      simp only [Ex.inBlock] at q
      simp only [Exit.inBlock]
      split
      · rename_i hid; rw [if_pos hid] at q; exact ⟨e', h', μ', q, s', he', t', hd'⟩
      · rename_i hid; rw [if_neg hid] at q; exact ⟨e', h', μ', q, s', he', t', hd'⟩
    | normal => exact ⟨e', h', μ', q, s', he', t', hd'⟩
    | goto l => exact ⟨e', h', μ', q, s', he', t', hd'⟩
    | ret => exact ⟨e', h', μ', q, s', he', t', hd'⟩
    | panic ch => exact ⟨e', h', μ', q, s', he', t', hd'⟩
    | outgrown => exact ⟨e', h', μ', q, s', he', t', hd'⟩
  | loop c ih =>
    intro Q e h hw μ a w s he hd
    obtain ⟨n, hn⟩ := hw
    refine wp_loop_rounds n ?_
    induction n generalizing e h μ a w with
    | zero => exact hn.elim
    | succ n ihn =>
      rw [rounds_succ]
      refine Code.wp_mono ?_ (ih _ e h hn μ a w s he hd)
      intro ex a' w' p
      obtain ⟨e', h', μ', q, s', he', t', hd'⟩ := p
      cases ex with
      | normal =>
        have := ihn e' h' μ' a' w' s' he' hd' q
        -- the rounds that are left end as the whole does
        have mono : ∀ (m : Nat) (a2 : Act) (w2 : World), Code.rounds P c (Post Q μ' h' w') m a2 w2 → Code.rounds P c (Post Q μ h w) m a2 w2 := by
          intro m
          induction m with
          | zero => intro a2 w2 hh; exact hh
          | succ m ihm =>
            intro a2 w2 hh
            rw [rounds_succ] at hh ⊢
            refine Code.wp_mono ?_ hh
            intro ex3 a3 w3 hh3
            cases ex3 with
            | normal => exact ihm _ _ hh3
            | exit id => exact hh3.trans t' (fun b x hx => (s.lt b x hx).1)
            | goto l => exact hh3.trans t' (fun b x hx => (s.lt b x hx).1)
            | ret => exact hh3.trans t' (fun b x hx => (s.lt b x hx).1)
            | panic ch => exact hh3.trans t' (fun b x hx => (s.lt b x hx).1)
            | outgrown => exact hh3.trans t' (fun b x hx => (s.lt b x hx).1)
        exact mono n a' w' this
      | exit id => exact ⟨e', h', μ', q, s', he', t', hd'⟩
      | goto l => exact ⟨e', h', μ', q, s', he', t', hd'⟩
      | ret => exact ⟨e', h', μ', q, s', he', t', hd'⟩
      | panic ch => exact ⟨e', h', μ', q, s', he', t', hd'⟩
      | outgrown => exact ⟨e', h', μ', q, s', he', t', hd'⟩
  | rangeFunc f ps x y ihx ihy => intro Q e h hw; exact hw.elim
  | scope c ih => intro Q e h hw; exact hw.elim
  | refuse why => intro Q e h hw; exact hw.elim

/-- what a function answers -/
def resV (T : Tab) (e : Env) (h : Heap) : ResultVar → Option V
  | .tmp t => e[t]?
  | .cell a t => match e[a]?, T t with
    | some (.ptr b off), some i => if i.k.agg then (h.loadN b off i.size).map .agg else
        match h.loadN b off 1 with
        | some [v] => some v
        | _ => none
    | _, _ => none

def resVs (T : Tab) (e : Env) (h : Heap) : List ResultVar → Option (List V)
  | [] => some []
  | r :: rs => match resV T e h r, resVs T e h rs with
    | some v, some vs => some (v :: vs)
    | _, _ => none

def resOf (T : Tab) (fn : Func) (e : Env) (h : Heap) : Option V :=
  match resVs T e h fn.results.toList with
  | some [v] => some v
  | some vs => some (.tup vs)
  | none => none

theorem resV_sound (fit : Fits P T) {μ : Mu} {e : Env} {h : Heap} {w : World} {tmps : Array Value} (s : Sim μ h w) (he : EnvR μ e tmps) {r : ResultVar} {v : V} (hr : resV T e h r = some v) :
    ∃ cv, (match r with | .tmp t => pure (tmps.getD t undef) | .cell a t => do loadVar t (← asAddr (tmps.getD a undef)) : Sem Value).run P w = .ok cv w ∧ VR μ v cv := by
  cases r with
  | tmp t =>
    simp only [resV] at hr
    obtain ⟨cv, h1, h2⟩ := VRs.get he hr
    refine ⟨cv, ?_, h2⟩
    simp only [Array.getElem?_toList] at h1
    simp only [Array.getD_eq_getD_getElem?, h1, Option.getD_some]
    rfl
  | cell a t =>
    simp only [resV] at hr
    split at hr
    · rename_i b off i hb hT
      obtain ⟨cv, h1, h2⟩ := VRs.get he hb
      simp only [Array.getElem?_toList] at h1
      simp only [VR] at h2
      obtain ⟨x, hx, rfl⟩ := h2
      have hl : (if i.k.agg then (h.loadN b off i.size).map fun cs => (V.agg cs, h) else match h.loadN b off 1 with | some [v] => some (v, h) | _ => none) = some (v, h) := by
        split at hr
        · rename_i ha
          simp only [Option.map_eq_some_iff] at hr
          obtain ⟨cs, hcs, rfl⟩ := hr
          simp [ha, hcs]
        · rename_i ha
          split at hr
          · rename_i u hu
            simp only [Option.some.injEq] at hr
            subst hr
            simp [ha, hu]
          · cases hr
      obtain ⟨cv, k1, k2⟩ := load_sound fit s hT hx hl
      refine ⟨cv, ?_, k2⟩
      simp only [Array.getD_eq_getD_getElem?, h1, Option.getD_some, asAddr, Sem.run_bind, Sem.run_pure, Result.andThen_ok]
      exact k1
    · cases hr

theorem resVs_sound (fit : Fits P T) {μ : Mu} {e : Env} {h : Heap} {w : World} {tmps : Array Value} (s : Sim μ h w) (he : EnvR μ e tmps) : ∀ {rs : List ResultVar} {vs : List V}, resVs T e h rs = some vs →
    ∃ cvs : List Value, (rs.mapM fun | .tmp t => pure (tmps.getD t undef) | .cell a t => do loadVar t (← asAddr (tmps.getD a undef)) : Sem (List Value)).run P w = .ok cvs w ∧ VRs μ vs cvs
  | [], _, hr => by
    simp only [resVs, Option.some.injEq] at hr
    subst hr
    exact ⟨[], by simp, by simp [VRs]⟩
  | r :: rs, _, hr => by
    simp only [resVs] at hr
    split at hr
    · rename_i v vs hv hvs
      simp only [Option.some.injEq] at hr
      subst hr
      obtain ⟨cv, k1, k2⟩ := resV_sound fit s he hv
      obtain ⟨cvs, g1, g2⟩ := resVs_sound fit s he hvs
      refine ⟨cv :: cvs, ?_, by simp only [VRs]; exact ⟨cv, cvs, rfl, k2, g2⟩⟩
      rw [List.mapM_cons]
      simp only [Sem.run_bind]
      have k1' := k1
      rw [k1']
      simp only [Result.andThen_ok]
      rw [g1]
      simp
    · cases hr

theorem resOf_sound (fit : Fits P T) {μ : Mu} {e : Env} {h : Heap} {w : World} {tmps : Array Value} (s : Sim μ h w) (he : EnvR μ e tmps) {fn : Func} {v : V} (hr : resOf T fn e h = some v) : ∃ cv, (results fn tmps).run P w = .ok cv w ∧ VR μ v cv := by
  unfold resOf at hr
  have key : ∀ {vs : List V}, resVs T e h fn.results.toList = some vs → ∃ cvs : List Value, VRs μ vs cvs ∧ (results fn tmps).run P w = .ok (if h : cvs.toArray.size = 1 then cvs.toArray[0] else .tuple cvs.toArray) w := by
    intro vs hvs
    obtain ⟨cvs, g1, g2⟩ := resVs_sound fit s he hvs
    refine ⟨cvs, g2, ?_⟩
    unfold results
    rw [Array.mapM_eq_mapM_toList]
    simp only [Sem.run_bind, Sem.run_map, Sem.run_pure]
    exact congrArg (fun r : Result (List Value) => (r.andThen fun a w' => Result.ok a.toArray w').andThen fun a w' => Result.ok (if h : a.size = 1 then a[0] else Value.tuple a) w') g1
  split at hr
  · rename_i u hvs
    simp only [Option.some.injEq] at hr
    subst hr
    obtain ⟨cvs, g1, g2⟩ := key hvs
    obtain ⟨c, rfl, hc⟩ := g1.one
    exact ⟨c, by simpa using g2, hc⟩
  · rename_i vs hne hvs
    simp only [Option.some.injEq] at hr
    subst hr
    obtain ⟨cvs, g1, g2⟩ := key hvs
    have hlen := g1.length
    have h1 : cvs.toArray.size ≠ 1 := by
      intro h1
      simp only [List.size_toArray] at h1
      rw [h1] at hlen
      match vs, hlen with
      | [u], _ => exact hne u rfl
    rw [dif_neg h1] at g2
    refine ⟨_, g2, ?_⟩
    simp only [VR]
    exact ⟨cvs.toArray, rfl, by simpa using g1⟩
  · cases hr

/-- how a body must end -/
def Ends (T : Tab) (fn : Func) (v : V) (H' : Heap) : Exit → Env → Heap → Prop
  | .normal, e, h | .ret, e, h => resOf T fn e h = some v ∧ h = H'
  | _, _, _ => False

theorem VRs.undefs {μ : Mu} (n : Nat) : VRs μ (List.replicate n V.undef) (List.replicate n Go.undef) := by
  induction n with
  | zero => simp [VRs]
  | succ n ih => simp only [List.replicate_succ, VRs]; exact ⟨_, _, rfl, VR.undef, ih⟩

/-- A FUNCTION's CONTRACT, by its body -/
theorem call_of_wp (fit : Fits P T) (hm : P.follows .mixedOrders = true) {f : Nat} {fn : Func} {c : Code} {args : List V} {H H' : Heap} {v : V} (hf : P.funcs[f]? = some fn) (hb : fn.body = some c) (hn : (fn.name == "runtime.NumGoroutine") = false)
    (h : wp P T c (Ends T fn v H') (args ++ List.replicate (fn.ntmps - args.length) V.undef) H) : Call P f args H v H' := by
  refine ⟨⟨fn, hf, by rw [hb]; rfl, hn⟩, fun μ w cargs s hargs => ?_⟩
  have hlen : cargs.size = args.length := by simpa using hargs.length
  have he : EnvR μ (args ++ List.replicate (fn.ntmps - args.length) V.undef) (cargs ++ Array.replicate (fn.ntmps - cargs.size) Go.undef) := by
    unfold EnvR
    rw [Array.toList_append, Array.toList_replicate, hlen]
    exact hargs.append (VRs.undefs _)
  refine calls_of_wp hf hb (Code.wp_mono ?_ (wp_sim fit hm c _ _ H h μ _ w s he rfl))
  intro ex a' w' p
  obtain ⟨e', h', μ', q, s', he', t', hd'⟩ := p
  cases ex <;> simp only [Ends] at q
  case normal =>
    obtain ⟨q1, rfl⟩ := q
    obtain ⟨cv, k1, k2⟩ := resOf_sound fit s' he' q1
    exact ⟨hd', cv, k1, cv, μ', rfl, k2, s', t'⟩
  case ret =>
    obtain ⟨q1, rfl⟩ := q
    obtain ⟨cv, k1, k2⟩ := resOf_sound fit s' he' q1
    exact ⟨hd', cv, k1, cv, μ', rfl, k2, s', t'⟩

mutual
/-- a value that names no memory -/
def V.plain : V → Bool
  | .int .. | .bool _ | .str _ | .nilp | .nils => true
  | .agg cs => V.plains cs
  | .tup vs => V.plains vs
  | _ => false
def V.plains : List V → Bool
  | [] => true
  | v :: vs => V.plain v && V.plains vs
end

mutual
theorem VR.plain {μ μ' : Mu} : ∀ {v : V} {w : Value}, v.plain = true → VR μ v w → VR μ' v w
  | .int .., _, _, h => by simpa only [VR] using h
  | .bool .., _, _, h => by simpa only [VR] using h
  | .str .., _, _, h => by simpa only [VR] using h
  | .nilp, _, _, h => by simpa only [VR] using h
  | .nils, _, _, h => by simpa only [VR] using h
  | .agg cs, _, hp, h => by
    simp only [V.plain] at hp
    simp only [VR] at h ⊢
    obtain ⟨cw, rfl, h1, hc⟩ := h
    exact ⟨cw, rfl, h1, VRs.plain hp hc⟩
  | .tup vs, _, hp, h => by
    simp only [V.plain] at hp
    simp only [VR] at h ⊢
    obtain ⟨cw, rfl, hc⟩ := h
    exact ⟨cw, rfl, VRs.plain hp hc⟩
  | .ptr .., _, hp, _ => by simp [V.plain] at hp
  | .slc .., _, hp, _ => by simp [V.plain] at hp
  | .map .., _, hp, _ => by simp [V.plain] at hp
  | .fn .., _, hp, _ => by simp [V.plain] at hp
theorem VRs.plain {μ μ' : Mu} : ∀ {vs : List V} {ws : List Value}, V.plains vs = true → VRs μ vs ws → VRs μ' vs ws
  | [], _, _, h => by simpa only [VRs] using h
  | v :: vs, _, hp, h => by
    simp only [V.plains, Bool.and_eq_true] at hp
    simp only [VRs] at h ⊢
    obtain ⟨w, ws', rfl, h1, h2⟩ := h
    exact ⟨w, ws', rfl, VR.plain hp.1 h1, VRs.plain hp.2 h2⟩
end

/-- what a call made and nobody names is forgotten -/
theorem Call.forget {f : Nat} {args : List V} {H H1 : Heap} {v : V} (h : Call P f args H v H1) (hp : H <+: H1) (hv : v.plain = true) : Call P f args H v H := by
  refine ⟨h.1, fun μ w cargs s hargs => (h.2 μ w cargs s hargs).mono ?_⟩
  rintro e w' ⟨cv, μ', rfl, k1, k2, k3⟩
  have low : ∀ b x, b < H.length → μ' b = some x → μ b = some x := fun b x hb hx => by
    cases hm : μ b with
    | some y => have := k3.ext b y hm; rw [hx] at this; exact this.symm
    | none => have := (k3.fresh b x hx hm).1; omega
  refine ⟨cv, μ'.cut H.length, rfl, VR.plain hv k1, k2.shorter hp (fun b x cs wr hx hb hrow i u hiu c hc => ?_), ⟨fun b x hx => ?_, fun b x hx hn => ?_, fun b k hk => ⟨k, hk, Blk.Le.refl k⟩, k3.size, k3.frame, k3.os, k3.tape, k3.output⟩⟩
  · rw [prefix_get hp hb] at hrow
    obtain ⟨_, c0, _, hc0⟩ := s.row b x cs wr (low b x hb hx) hrow i u hiu
    refine (VR.back k3.ext hc0 hc).mono fun b' x' hx' => ?_
    rw [Mu.cut_lt (s.lt b' x' hx').1]; exact k3.ext _ _ hx'
  · rw [Mu.cut_lt (s.lt b x hx).1]; exact k3.ext _ _ hx
  · exfalso
    obtain ⟨c1, c2⟩ := Mu.cut_some hx
    have := (k3.fresh b x c2 hn).1
    omega

end Go.Proofs.Ytjageapgbpdlhaa.VM
