/- Joined texts: VmK, VmL, VmM, VmN, VmR, VmS, VmT, VmU, VmV. -/
import Derived.Test.YtncjbjlmgnjhiaaGreatJC1
import Derived.Orders
import Derived.LoopN
namespace Go.Proofs.YtncjbjlmgnjhiaaGreat.VM
open Go
set_option linter.unusedVariables false
set_option linter.unusedSimpArgs false
def aG (acc : List Nat) (o : Oper) : Nat :=
 o.after.toList.foldl (fun m e => if Region.binds .any e then m ||| 2 ^ e.on ||| acc.getD e.on 0 else m) 0
def ancs : List Oper → List Nat → List Nat
 | [], acc => acc
 | o :: os, acc => ancs os (acc ++ [aG acc o])
def anc (ops : Array Oper) (k : Nat) : Nat := (ancs ops.toList []).getD k 0
def looksAt (ops : Array Oper) (o : Oper) : List Nat :=
 (o.op.operands.toList.filterMap fun | .tmp t => some t | _ => none) ++ (Fh ops o).toList
def clash (ops : Array Oper) (x y : Oper) : Bool :=
 (match x.dst with | some d => (looksAt ops y).contains d || y.dst == some d | none => false) ||
 (match y.dst with | some d => (looksAt ops x).contains d | none => false)
def Dk (ops : Array Oper) : Bool :=
 let a := ancs ops.toList []
 ops.toList.zipIdx.all fun (y, k) =>
  y.after.toList.all (fun e => !Region.binds .any e || decide (e.on < k)) &&
  ops.toList.zipIdx.all fun (x, j) => !(decide (j < k) && clash ops x y) || (a.getD k 0).testBit j
def isLoad : Op → Bool
 | .load .. => true
 | _ => false
def aY : Op → Bool
 | .store .. | .mapUpdate .. => true
 | .call { callee := .builtin b, .. } => match b with
  | .len | .cap | .min | .max => false
  | _ => true
 | _ => false
def CL (ops : Array Oper) (j : Nat) : Bool :=
 let a := ancs ops.toList []
 (match ops[j]? with | some o => isLoad o.op | none => false) && ops.toList.zipIdx.any fun (x, s) => decide (j < s) && aY x.op && !(a.getD s 0).testBit j
def Cv (ops : Array Oper) (k : Nat) : Bool :=
 let a := ancs ops.toList []
 ops.toList.zipIdx.all fun (x, j) => !touches x.op || decide (j = k) || (if j < k then (a.getD k 0).testBit j || CL ops j else (a.getD j 0).testBit k)
section
variable {P : Program} {T : Tab} {ops : Array Oper}
theorem SO (acc : List Nat) (j : Nat) : ∀ (l : List Edge) (m : Nat), (l.foldl (fun m e => if Region.binds .any e then m ||| 2 ^ e.on ||| acc.getD e.on 0 else m) m).testBit j = true →
  m.testBit j = true ∨ ∃ e ∈ l, Region.binds .any e = true ∧ (e.on = j ∨ (acc.getD e.on 0).testBit j = true)
 | [], m, h => .inl h
 | e :: l, m, h => by
  simp only [List.foldl_cons] at h
  rcases SO acc j l _ h with h1 | ⟨e', he, hb, hj⟩
  ·split at h1
   ·rename_i hb
    rw [Nat.testBit_or, Nat.testBit_or, Bool.or_eq_true, Bool.or_eq_true] at h1
    rcases h1 with (h1 | h1) | h1
    ·exact .inl h1
    ·rw [Nat.testBit_two_pow] at h1
     exact .inr ⟨e, by simp, hb, .inl (by simpa using h1)⟩
    ·exact .inr ⟨e, by simp, hb, .inr h1⟩
   ·exact .inl h1
  ·exact .inr ⟨e', by simp [he], hb, hj⟩
def Ei (ops : Array Oper) (X : Nat → Prop) : Prop := ∀ (k : Nat) o, ops[k]? = some o → X k → ∀ e ∈ o.after, Region.binds .any e = true → X e.on
def GX (ops : Array Oper) (X : Nat → Prop) (k : Nat) : Prop := ∀ o, ops[k]? = some o → ∀ e ∈ o.after, Region.binds .any e = true → X e.on
theorem PY {X : Nat → Prop} (hX : Ei ops X) : ∀ (os : List Oper) (acc : List Nat), (∀ i, os[i]? = ops[acc.length + i]?) →
  (∀ k m, acc[k]? = some m → (X k ∨ GX ops X k) → ∀ j, m.testBit j = true → X j) →
  ∀ k m, (ancs os acc)[k]? = some m → (X k ∨ GX ops X k) → ∀ j, m.testBit j = true → X j
 | [], acc, _, h => h
 | o :: os, acc, hos, h => by
  simp only [ancs]
  refine PY hX os _ (fun i => ?_) (fun k m hk hr j hj => ?_)
  ·have := hos (i + 1)
   simp only [List.getElem?_cons_succ] at this
   rw [this]
   simp only [List.length_append, List.length_cons, List.length_nil]
   congr 1; omega
  ·by_cases hlt : k < acc.length
   ·rw [List.getElem?_append_left hlt] at hk
    exact h k m hk hr j hj
   ·rw [List.getElem?_append_right (by omega)] at hk
    have hk0 : k - acc.length = 0 := by
     apply Nat.eq_zero_of_le_zero
     apply Nat.le_of_not_lt
     intro h1
     rw [List.getElem?_eq_none (by simp; omega)] at hk
     cases hk
    rw [hk0] at hk
    simp only [List.getElem?_cons_zero, Option.some.injEq] at hk
    subst hk
    have hok : ops[k]? = some o := by
     have := hos 0
     simp only [List.getElem?_cons_zero, Nat.add_zero] at this
     rw [show k = acc.length by omega]
     exact this.symm
    rcases SO acc j _ _ hj with h0 | ⟨e, he, hb, hej⟩
    ·simp at h0
    ·have heX : X e.on := by
      rcases hr with hr | hr
      ·exact hX k o hok hr e (by simpa using he) hb
      ·exact hr o hok e (by simpa using he) hb
     rcases hej with rfl | hej
     ·exact heX
     ·cases hg : acc[e.on]? with
      | none => simp [List.getD_eq_getElem?_getD, hg] at hej
      | some m' =>
       simp only [List.getD_eq_getElem?_getD, hg, Option.getD_some] at hej
       exact h e.on m' hg (.inl heX) j hej
theorem Hl {X : Nat → Prop} (hX : Ei ops X) {k j : Nat} (hr : X k ∨ GX ops X k) (h : (anc ops k).testBit j = true) : X j := by
 unfold anc at h
 cases hg : (ancs ops.toList [])[k]? with
 | none => simp [List.getD_eq_getElem?_getD, hg] at h
 | some m =>
  simp only [List.getD_eq_getElem?_getD, hg, Option.getD_some] at h
  exact PY hX ops.toList [] (fun i => by simp) (fun k m hk => by simp at hk) k m hg hr j h
theorem Mk (h : Dk ops = true) {k : Nat} {o : Oper} (ho : ops[k]? = some o) {e : Edge} (he : e ∈ o.after) (hb : Region.binds .any e = true) : e.on < k := by
 simp only [Dk, List.all_eq_true, Bool.and_eq_true] at h
 have hm : (o, k) ∈ ops.toList.zipIdx := by rw [List.mem_zipIdx_iff_getElem?]; simpa using ho
 have h1 := (h (o, k) hm).1 e (by simpa using he)
 simpa [hb] using h1
theorem LB (h : Dk ops = true) {j k : Nat} {x y : Oper} (hx : ops[j]? = some x) (hy : ops[k]? = some y) (hjk : j < k) (hc : clash ops x y = true) : (anc ops k).testBit j = true := by
 simp only [Dk, List.all_eq_true, Bool.and_eq_true] at h
 have hm : (y, k) ∈ ops.toList.zipIdx := by rw [List.mem_zipIdx_iff_getElem?]; simpa using hy
 have hm' : (x, j) ∈ ops.toList.zipIdx := by rw [List.mem_zipIdx_iff_getElem?]; simpa using hx
 have h1 := (h (y, k) hm).2 (x, j) hm'
 simpa [hjk, hc, anc] using h1
theorem Nf {k : Nat} (h : Cv ops k = true) {j : Nat} {x : Oper} (hx : ops[j]? = some x) (ht : touches x.op = true) (hj : j < k) : (anc ops k).testBit j = true ∨ CL ops j = true := by
 simp only [Cv, List.all_eq_true] at h
 have hm' : (x, j) ∈ ops.toList.zipIdx := by rw [List.mem_zipIdx_iff_getElem?]; simpa using hx
 have h1 := h (x, j) hm'
 simpa [ht, hj, Nat.ne_of_lt hj, anc] using h1
theorem Nd {k : Nat} (h : Cv ops k = true) {j : Nat} {x : Oper} (hx : ops[j]? = some x) (ht : touches x.op = true) (hj : k < j) : (anc ops j).testBit k = true := by
 simp only [Cv, List.all_eq_true] at h
 have hm' : (x, j) ∈ ops.toList.zipIdx := by rw [List.mem_zipIdx_iff_getElem?]; simpa using hx
 have h1 := h (x, j) hm'
 simpa [ht, Nat.lt_asymm hj, Nat.ne_of_gt hj, anc] using h1
mutual
def V.under (n : Nat) : V → Bool
 | .ptr b _ => decide (b < n)
 | .slc b .. => decide (b < n)
 | .map b => decide (b < n)
 | .fn _ cs => V.unders n cs
 | .agg cs => V.unders n cs
 | .tup vs => V.unders n vs
 | _ => true
def V.unders (n : Nat) : List V → Bool
 | [] => true
 | v :: vs => V.under n v && V.unders n vs
end
structure Run (P : Program) (T : Tab) (ops : Array Oper) (E : Nat → Env) (Hs : Nat → Heap) : Prop where
 step : ∀ (k : Nat) o, ops[k]? = some o →
  (guardOf ops (E k) o = true ∧ ∃ v, Step P T (E k) (Hs k) o.op v (Hs (k + 1)) ∧ E (k + 1) = (E k).put o.dst v ∧ (Hs k).length ≤ (Hs (k + 1)).length ∧ (Hs k <+: Hs (k + 1) ∨ Cv ops k = true)) ∨
  (guardOf ops (E k) o = false ∧ E (k + 1) = (E k).put o.dst V.undef ∧ Hs (k + 1) = Hs k)
 late : ∀ (k : Nat) o, ops[k]? = some o → CL ops k = true → guardOf ops (E k) o = true →
  ∃ v, E (k + 1) = (E k).put o.dst v ∧ v.under (Hs (k + 1)).length = true ∧ ∀ m, k ≤ m → m ≤ ops.size → memOp T (E k).ev (Hs m) o.op = some (v, Hs m)
theorem Env.Ul (e : Env) (d : Option Nat) (v : V) : (e.put d v).length = e.length := by
 cases d <;> simp [Env.put]
theorem Env.XN {e : Env} {d : Option Nat} {v : V} {t : Nat} (h : d ≠ some t) : (e.put d v)[t]? = e[t]? := by
 cases d with
 | none => rfl
 | some d => simp only [Env.put]; rw [List.getElem?_set_ne (fun e => h (by rw [e]))]
variable {E : Nat → Env} {Hs : Nat → Heap}
theorem Run.len (r : Run P T ops E Hs) {k : Nat} (hk : k ≤ ops.size) : (E k).length = (E 0).length := by
 induction k with
 | zero => rfl
 | succ k ih =>
  obtain ⟨o, ho⟩ : ∃ o, ops[k]? = some o := ⟨ops[k], by simp [Nat.lt_of_succ_le hk]⟩
  rcases r.step k o ho with ⟨_, v, _, h, _⟩ | ⟨_, h, _⟩ <;> rw [h, Env.Ul, ih (by omega)]
theorem Run.mono (r : Run P T ops E Hs) {j k : Nat} (hjk : j ≤ k) (hk : k ≤ ops.size) : (Hs j).length ≤ (Hs k).length := by
 induction k with
 | zero => obtain rfl : j = 0 := by omega
           exact Nat.le_refl _
 | succ k ih =>
  by_cases h : j = k + 1
  ·subst h; exact Nat.le_refl _
  ·refine Nat.le_trans (ih (by omega) (by omega)) ?_
   obtain ⟨o, ho⟩ : ∃ o, ops[k]? = some o := ⟨ops[k], by simp [Nat.lt_of_succ_le hk]⟩
   rcases r.step k o ho with ⟨_, v, _, _, h, _⟩ | ⟨_, _, h⟩
   ·exact h
   ·rw [h]; exact Nat.le_refl _
theorem Run.same (r : Run P T ops E Hs) {t j k : Nat} (hjk : j ≤ k) (hk : k ≤ ops.size) (h : ∀ (i : Nat) o, ops[i]? = some o → j ≤ i → i < k → o.dst ≠ some t) : (E k)[t]? = (E j)[t]? := by
 induction k with
 | zero => obtain rfl : j = 0 := by omega
           rfl
 | succ k ih =>
  by_cases hj : j = k + 1
  ·subst hj; rfl
  ·obtain ⟨o, ho⟩ : ∃ o, ops[k]? = some o := ⟨ops[k], by simp [Nat.lt_of_succ_le hk]⟩
   have hd := h k o ho (by omega) (by omega)
   rw [← ih (by omega) (by omega) (fun i o hi h1 h2 => h i o hi h1 (by omega))]
   rcases r.step k o ho with ⟨_, v, _, h, _⟩ | ⟨_, h, _⟩ <;> rw [h, Env.XN hd]
theorem Step.MO {e : Env} {h h' : Heap} {o : Op} {v : V} (st : Step P T e h o v h') (ht : touches o = false) : pureOp T e.ev o = some v ∧ h' = h := by
 rcases st with hp | hm | ⟨f, xs, ts, g, caps, vs, ho, _⟩
 ·exact hp
 ·have := Sq hm; rw [ht] at this; cases this
 ·subst ho; simp [touches] at ht
theorem Run.still (r : Run P T ops E Hs) {k : Nat} {o : Oper} (ho : ops[k]? = some o) (ht : touches o.op = false) : Hs (k + 1) = Hs k := by
 rcases r.step k o ho with ⟨_, v, h, _⟩ | ⟨_, _, h⟩
 ·exact (h.MO ht).2
 ·exact h
theorem Run.eI (r : Run P T ops E Hs) {k : Nat} {o : Oper} (ho : ops[k]? = some o) (hn : ¬ Hs k <+: Hs (k + 1)) : touches o.op = true ∧ Cv ops k = true := by
 rcases r.step k o ho with ⟨_, v, h, _, _, h2⟩ | ⟨_, _, h⟩
 ·refine ⟨?_, h2.resolve_left hn⟩
  cases ht : touches o.op with
  | true => rfl
  | false => exact absurd (by rw [(h.MO ht).2]; exact List.prefix_refl _) hn
 ·exact absurd (by rw [h]; exact List.prefix_refl _) hn
def Mu.cut (μ : Mu) (n : Nat) : Mu := fun b => if b < n then μ b else none
theorem Mu.UG (μ : Mu) (n : Nat) : Mu.Le (μ.cut n) μ := fun b x h => by
 unfold Mu.cut at h; split at h
 ·exact h
 ·cases h
theorem Mu.Np {μ : Mu} {m n : Nat} (h : m ≤ n) : Mu.Le (μ.cut m) (μ.cut n) := fun b x hx => by
 unfold Mu.cut at hx ⊢; split at hx
 ·rw [if_pos (by omega)]; exact hx
 ·cases hx
theorem Mu.Cm {μ : Mu} {n b : Nat} {x : Loc} (h : μ.cut n b = some x) : b < n ∧ μ b = some x := by
 unfold Mu.cut at h; split at h
 ·rename_i hb; exact ⟨hb, h⟩
 ·cases h
theorem Mu.Ge {μ : Mu} {n b : Nat} (h : b < n) : μ.cut n b = μ b := by unfold Mu.cut; rw [if_pos h]
mutual
theorem VR.under {μ : Mu} {n : Nat} : ∀ {v : V} {w : Value}, v.under n = true → VR μ v w → VR (μ.cut n) v w
 | .int .., _, _, h => by simpa only [VR] using h
 | .bool .., _, _, h => by simpa only [VR] using h
 | .str .., _, _, h => by simpa only [VR] using h
 | .Co, _, _, h => by simpa only [VR] using h
 | .AN, _, _, h => by simpa only [VR] using h
 | .nilm, _, _, h => by simpa only [VR] using h
 | .ptr b off, _, hu, h => by
  simp only [V.under, decide_eq_true_eq] at hu
  simp only [VR] at h ⊢
  obtain ⟨x, hx, e⟩ := h
  exact ⟨x, by rw [Mu.Ge hu]; exact hx, e⟩
 | .slc b off len cap t sz, _, hu, h => by
  simp only [V.under, decide_eq_true_eq] at hu
  simp only [VR] at h ⊢
  obtain ⟨a, c, h1, h2, h3, h4, h5⟩ := h
  refine ⟨a, c, h1, h2, h3, h4, h5.imp id ?_⟩
  rintro ⟨x, o, hx, hr⟩
  exact ⟨x, o, by rw [Mu.Ge hu]; exact hx, hr⟩
 | .map b, _, hu, h => by
  simp only [V.under, decide_eq_true_eq] at hu
  simp only [VR] at h ⊢
  obtain ⟨x, hx, e⟩ := h
  exact ⟨x, by rw [Mu.Ge hu]; exact hx, e⟩
 | .fn f cs, _, hu, h => by
  simp only [V.under] at hu
  simp only [VR] at h ⊢
  obtain ⟨cw, e, hc⟩ := h
  exact ⟨cw, e, VRs.under hu hc⟩
 | .agg cs, _, hu, h => by
  simp only [V.under] at hu
  simp only [VR] at h ⊢
  obtain ⟨cw, e, h1, hc⟩ := h
  exact ⟨cw, e, h1, VRs.under hu hc⟩
 | .tup vs, _, hu, h => by
  simp only [V.under] at hu
  simp only [VR] at h ⊢
  obtain ⟨cw, e, hc⟩ := h
  exact ⟨cw, e, VRs.under hu hc⟩
theorem VRs.under {μ : Mu} {n : Nat} : ∀ {vs : List V} {ws : List Value}, V.unders n vs = true → VRs μ vs ws → VRs (μ.cut n) vs ws
 | [], _, _, h => by simpa only [VRs] using h
 | v :: vs, _, hu, h => by
  simp only [V.unders, Bool.and_eq_true] at hu
  simp only [VRs] at h ⊢
  obtain ⟨w, ws', e, h1, h2⟩ := h
  exact ⟨w, ws', e, VR.under hu.1 h1, VRs.under hu.2 h2⟩
end
theorem HK {j : Nat} {o : Oper} (h : CL ops j = true) (ho : ops[j]? = some o) : ∃ t x, o.op = .load t x := by
 simp only [CL, ho, Bool.and_eq_true] at h
 have h1 := h.1
 unfold isLoad at h1
 split at h1
 ·rename_i t x e; exact ⟨t, x, e⟩
 ·cases h1
theorem Step.MI {e : Env} {h h' : Heap} {t : Nat} {x : Operand} {v : V} (st : Step P T e h (.load t x) v h') : memOp T e.ev h (.load t x) = some (v, h) ∧ h' = h := by
 rcases st with ⟨hp, _⟩ | hm | ⟨f, xs, ts, g, caps, vs, ho, _⟩
 ·simp [pureOp] at hp
 ·have hh : h' = h := by
   have hm' := hm
   simp only [memOp] at hm'
   split at hm'
   ·split at hm'
    ·simp only [Option.map_eq_some_iff, Prod.mk.injEq] at hm'; obtain ⟨_, _, _, rfl⟩ := hm'; rfl
    ·split at hm'
     ·simp only [Option.some.injEq, Prod.mk.injEq] at hm'; exact hm'.2.symm
     ·cases hm'
   ·cases hm'
  exact ⟨by rw [hm, hh], hh⟩
 ·cases ho
theorem Mu.VQ {μ μ' : Mu} {n : Nat} (h : Mu.Le μ μ') : Mu.Le (μ.cut n) (μ'.cut n) := fun b x hx => by
 obtain ⟨h1, h2⟩ := Mu.Cm hx
 rw [Mu.Ge h1]; exact h _ _ h2
theorem Cp {H H' : Heap} (h : H <+: H') {b : Nat} (hb : b < H.length) : H'[b]? = H[b]? := by
 obtain ⟨l, rfl⟩ := h
 rw [List.getElem?_append_left hb]
theorem Sim.Uc {μ : Mu} {H H' : Heap} {w : World} (s : Sim μ H w) (h : H <+: H') : Sim μ H' w := by
 have g : ∀ b x k, μ b = some x → H'[b]? = some k → H[b]? = some k := fun b x k hx hk => by
  rw [← Cp h (s.lt b x hx).1]; exact hk
 refine ⟨fun b x hx => ⟨Nat.lt_of_lt_of_le (s.lt b x hx).1 h.length_le, (s.lt b x hx).2⟩, ?_, ?_, ?_, ?_, ?_⟩
 ·intro b x cs wr hx hb; exact s.row b x cs wr hx (g _ _ _ hx hb)
 ·intro b x cs wr hx hb; exact s.ext b x cs wr hx (g _ _ _ hx hb)
 ·intro b x cs hx hb; exact s.free b x cs hx (g _ _ _ hx hb)
 ·intro b x k hx hb ho b' x' k' hne hx' hb' hd; exact s.sole b x k hx (g _ _ _ hx hb) ho b' x' k' hne hx' (g _ _ _ hx' hb') hd
 ·intro b x es hx hb; exact s.mp b x es hx (g _ _ _ hx hb)
theorem Sim.WI {μ : Mu} {H H' : Heap} {w : World} (s : Sim μ H' w) (h : H <+: H') (hv : ∀ b x cs wr, μ b = some x → b < H.length → H'[b]? = some (.row cs wr) → ∀ (i : Nat) v, cs[i]? = some v → ∀ cv, VR μ v cv → VR (μ.cut H.length) v cv) : Sim (μ.cut H.length) H w := by
 have g : ∀ b x k, μ.cut H.length b = some x → H[b]? = some k → H'[b]? = some k := fun b x k hx hk => by
  rw [Cp h (Mu.Cm hx).1]; exact hk
 refine ⟨fun b x hx => ⟨(Mu.Cm hx).1, (s.lt b x (Mu.Cm hx).2).2⟩, ?_, ?_, ?_, ?_, ?_⟩
 ·intro b x cs wr hx hb i v hi
  obtain ⟨h1, cv, h2, h3⟩ := s.row b x cs wr (Mu.Cm hx).2 (g _ _ _ hx hb) i v hi
  exact ⟨h1, cv, h2, hv b x cs wr (Mu.Cm hx).2 (Mu.Cm hx).1 (g _ _ _ hx hb) i v hi cv h3⟩
 ·intro b x cs wr hx hb; exact s.ext b x cs wr (Mu.Cm hx).2 (g _ _ _ hx hb)
 ·intro b x cs hx hb; exact s.free b x cs (Mu.Cm hx).2 (g _ _ _ hx hb)
 ·intro b x k hx hb ho b' x' k' hne hx' hb' hd; exact s.sole b x k (Mu.Cm hx).2 (g _ _ _ hx hb) ho b' x' k' hne (Mu.Cm hx').2 (g _ _ _ hx' hb') hd
 ·intro b x es hx hb; exact s.mp b x es (Mu.Cm hx).2 (g _ _ _ hx hb)
end
end Go.Proofs.YtncjbjlmgnjhiaaGreat.VM
namespace Go.Proofs.YtncjbjlmgnjhiaaGreat.VM
open Go
set_option linter.unusedVariables false
set_option linter.unusedSimpArgs false
set_option linter.unusedSectionVars false
variable {P : Program} {T : Tab} {ops : Array Oper} {E : Nat → Env} {Hs : Nat → Heap}
def Lst (listed : Array Bool) (k : Nat) : Prop := listed.getD k false = true
structure Mid (P : Program) (T : Tab) (ops : Array Oper) (E : Nat → Env) (Hs : Nat → Heap) (μ0 : Mu) (w0 : World) (listed : Array Bool) (a : Act) (w : World) (μ : Mu) (lo hi : Nat) : Prop where
 lohi : lo ≤ hi
 hin : hi ≤ ops.size
 quiet : ∀ j, lo ≤ j → j < hi → Hs j <+: Hs (j + 1)
 done : ∀ (j : Nat) o, ops[j]? = some o → touches o.op = true → j < lo → Lst listed j ∨ CL ops j = true
 todo : ∀ (j : Nat) o, ops[j]? = some o → touches o.op = true → hi ≤ j → ¬ Lst listed j
 sim : Sim μ (Hs hi) w
 dom : ∀ b x, μ b = some x → b < (Hs lo).length ∨ ∃ j, Lst listed j ∧ lo ≤ j ∧ j < hi ∧ (Hs j).length ≤ b ∧ b < (Hs (j + 1)).length
 wf : ∀ b x cs wr, μ b = some x → (Hs hi)[b]? = some (.row cs wr) → ∀ m, lo ≤ m → m ≤ hi → b < (Hs m).length → ∀ (i : Nat) v, cs[i]? = some v → ∀ cv, VR μ v cv → VR (μ.cut (Hs m).length) v cv
 vals : ∀ t, t < (E 0).length → ∃ k', k' ≤ ops.size ∧ (k' = 0 ∨ ∃ o, ops[k' - 1]? = some o ∧ o.dst = some t) ∧ (∀ (i : Nat) o, ops[i]? = some o → o.dst = some t → (Lst listed i ↔ i < k')) ∧
  ∃ v cv, (E k')[t]? = some v ∧ a.tmps[t]? = some cv ∧ VR (μ.cut (Hs k').length) v cv
 tr : Tr μ0 (Hs 0) w0 μ (Hs hi) w
structure Inv (P : Program) (T : Tab) (ops : Array Oper) (E : Nat → Env) (Hs : Nat → Heap) (μ0 : Mu) (w0 : World) (listed : Array Bool) (a : Act) (w : World) : Prop where
 size : listed.size = ops.size
 closed : Ei ops (Lst listed)
 tmps : a.tmps.size = (E 0).length
 defers : a.defers = []
 mid : ∃ μ lo hi, Mid P T ops E Hs μ0 w0 listed a w μ lo hi
theorem CN {lo hi : Nat} (h : ∀ j, lo ≤ j → j < hi → Hs j <+: Hs (j + 1)) : ∀ {j k : Nat}, lo ≤ j → j ≤ k → k ≤ hi → Hs j <+: Hs k := by
 intro j k hl hjk hk
 induction k with
 | zero => obtain rfl : j = 0 := by omega
           exact List.prefix_refl _
 | succ k ih =>
  by_cases hj : j = k + 1
  ·subst hj; exact List.prefix_refl _
  ·exact (ih (by omega) (by omega)).trans (h k (by omega) (by omega))
theorem NK {μ : Mu} {H : Heap} {w : World} (s : Sim μ H w) : Mu.Le μ (μ.cut H.length) := fun b x hx => by
 rw [Mu.Ge (s.lt b x hx).1]; exact hx
theorem Tr.Uc {μ μ' : Mu} {H H' H'' : Heap} {w w' : World} (t : Tr μ H w μ' H' w') (h : H' <+: H'') : Tr μ H w μ' H'' w' := by
 refine ⟨t.ext, fun b x hx hn => ?_, fun b k hk => ?_, t.size, t.frame, t.os, t.tape, t.output⟩
 ·obtain ⟨h1, h2⟩ := t.fresh b x hx hn
  refine ⟨h1, h2.imp id ?_⟩
  rintro ⟨b0, x0, k, e1, e2, e3, e4, e5⟩
  have hlt : b0 < H'.length := (List.getElem?_eq_some_iff.1 e5).1
  exact ⟨b0, x0, k, e1, e2, e3, e4, by rw [Cp h hlt]; exact e5⟩
 ·obtain ⟨k', h1, h2⟩ := t.stay b k hk
  have hlt : b < H'.length := (List.getElem?_eq_some_iff.1 h1).1
  exact ⟨k', by rw [Cp h hlt]; exact h1, h2⟩
theorem Lst.set {listed : Array Bool} {k j : Nat} (hk : k < listed.size) : Lst (listed.setIfInBounds k true) j ↔ (j = k ∨ Lst listed j) := by
 unfold Lst
 by_cases h : k = j
 ·subst h; simp [hk]
 ·rw [getD_set_ne false h]
  constructor
  ·exact .inr
  ·rintro (h' | h')
   ·exact absurd h'.symm h
   ·exact h'
section
variable (r : Run P T ops E Hs) (ok : Dk ops = true) {μ0 : Mu} {w0 : World} {listed : Array Bool} {a : Act} {w : World} {μ : Mu} {lo hi k : Nat} {o : Oper}
include r
theorem Mid.reach (m : Mid P T ops E Hs μ0 w0 listed a w μ lo hi) (cl : Ei ops (Lst listed)) (ho : ops[k]? = some o) (ht : touches o.op = true) (hnl : ¬ Lst listed k) (hr : GX ops (Lst listed) k) (hq : Hs k <+: Hs (k + 1)) (hlt : CL ops k = true → lo ≤ k) :
  ∃ hi', lo ≤ k ∧ k < hi' ∧ Mid P T ops E Hs μ0 w0 listed a w μ lo hi' := by
 have hlo : lo ≤ k := by
  apply Nat.le_of_not_lt
  intro h
  rcases m.done k o ho ht h with h' | h'
  ·exact hnl h'
  ·have := hlt h'; omega
 have hks : k < ops.size := (Array.getElem?_eq_some_iff.1 ho).1
 by_cases hk : k < hi
 ·exact ⟨hi, hlo, hk, m⟩
 ·have hq' : ∀ j, lo ≤ j → j < k + 1 → Hs j <+: Hs (j + 1) := fun j hj hj' => by
   by_cases hjh : j < hi
   ·exact m.quiet j hj hjh
   ·by_cases hjk : j = k
    ·subst hjk; exact hq
    ·by_cases hp : Hs j <+: Hs (j + 1)
     ·exact hp
     ·exfalso
      obtain ⟨oj, hoj⟩ : ∃ o, ops[j]? = some o := ⟨ops[j]'(by omega), by simp⟩
      obtain ⟨h1, h2⟩ := r.eI hoj hp
      have := Hl cl (.inr hr) (Nd h2 ho ht (by omega))
      exact m.todo j oj hoj h1 (by omega) this
  have hpre : Hs hi <+: Hs (k + 1) := CN hq' m.lohi (by omega) (Nat.le_refl _)
  refine ⟨k + 1, hlo, Nat.lt_succ_self _, ⟨by omega, by omega, hq', m.done, fun j o' ho' ht' hj => m.todo j o' ho' ht' (by omega), m.sim.Uc hpre, fun b x hx => ?_, fun b x cs wr hx hb mm h1 h2 hbm i v hiv cv hv => ?_, m.vals, m.tr.Uc hpre⟩⟩
  ·rcases m.dom b x hx with h | ⟨j, h1, h2, h3, h4⟩
   ·exact .inl h
   ·exact .inr ⟨j, h1, h2, by omega, h4⟩
  ·have hblt := (m.sim.lt b x hx).1
   rw [Cp hpre hblt] at hb
   by_cases hm : mm ≤ hi
   ·exact m.wf b x cs wr hx hb mm h1 hm hbm i v hiv cv hv
   ·exact (m.wf b x cs wr hx hb hi m.lohi (Nat.le_refl _) hblt i v hiv cv hv).mono (Mu.Np ((CN hq' m.lohi (by omega : hi ≤ mm) h2).length_le))
theorem Rq (ok : Dk ops = true) (cl : Ei ops (Lst listed)) (ho : ops[k]? = some o) (hnl : ¬ Lst listed k) (hr : GX ops (Lst listed) k) {t : Nat} (ht : t ∈ looksAt ops o ∨ o.dst = some t) {i : Nat} {oi : Oper} (hi : ops[i]? = some oi) (hd : oi.dst = some t) (hne : i ≠ k) : Lst listed i ↔ i < k := by
 rcases Nat.lt_or_gt_of_ne hne with h | h
 ·refine ⟨fun _ => h, fun _ => ?_⟩
  refine Hl cl (.inr hr) (LB ok hi ho h ?_)
  rcases ht with ht | ht
  ·simp [clash, hd, ht]
  ·simp [clash, hd, ht]
 ·refine ⟨fun hl => ?_, fun h' => absurd h' (by omega)⟩
  exfalso
  refine hnl (Hl cl (.inl hl) (LB ok ho hi h ?_))
  rcases ht with ht | ht
  ·simp [clash, hd, ht]
  ·simp [clash, hd, ht]
theorem Mid.look (ok : Dk ops = true) (m : Mid P T ops E Hs μ0 w0 listed a w μ lo hi) (cl : Ei ops (Lst listed)) (ho : ops[k]? = some o) (hnl : ¬ Lst listed k) (hr : GX ops (Lst listed) k) {t : Nat} (htl : t < (E 0).length) (ht : t ∈ looksAt ops o ∨ o.dst = some t) :
  ∃ v cv, (E k)[t]? = some v ∧ a.tmps[t]? = some cv ∧ VR (μ.cut (Hs k).length) v cv := by
 have hks : k < ops.size := (Array.getElem?_eq_some_iff.1 ho).1
 obtain ⟨k', h1, h2, h3, v, cv, h4, h5, h6⟩ := m.vals t htl
 have hle : k' ≤ k := by
  apply Nat.le_of_not_lt
  intro hlt
  rcases h2 with h2 | ⟨o', ho', hd'⟩
  ·omega
  ·have hl := (h3 _ o' ho' hd').2 (by omega)
   by_cases he : k' - 1 = k
   ·rw [he] at hl; exact hnl hl
   ·have := (Rq r ok cl ho hnl hr ht ho' hd' he).1 hl
    omega
 refine ⟨v, cv, ?_, h5, h6.mono (Mu.Np (r.mono hle (by omega)))⟩
 rw [r.same hle (by omega) (fun i oi hi hi1 hi2 hd => ?_)]
 ·exact h4
 ·have := (Rq r ok cl ho hnl hr ht hi hd (by omega)).2 hi2
  have := (h3 i oi hi hd).1 this
  omega
theorem Mid.looks (ok : Dk ops = true) (m : Mid P T ops E Hs μ0 w0 listed a w μ lo hi) (cl : Ei ops (Lst listed)) (ho : ops[k]? = some o) (hnl : ¬ Lst listed k) (hr : GX ops (Lst listed) k) : Mf (μ.cut (Hs k).length) (E k) a o.op := fun x hx v hv => by
 have hks : k < ops.size := (Array.getElem?_eq_some_iff.1 ho).1
 cases x with
 | tmp t =>
  simp only [Env.ev] at hv
  have htl : t < (E 0).length := by rw [← r.len (by omega : k ≤ ops.size)]; exact (List.getElem?_eq_some_iff.1 hv).1
  obtain ⟨v', cv, h1, h2, h3⟩ := m.look r ok cl ho hnl hr htl (.inl (List.mem_append_left _ (List.mem_filterMap.2 ⟨.tmp t, by simpa using hx, rfl⟩)))
  rw [hv] at h1
  obtain rfl := Option.some.inj h1
  simp only [Act.eval, Array.getD_eq_getD_getElem?, h2, Option.getD_some]
  exact h3
 | const c => exact VR.Fm c hv
 | func f =>
  simp only [Env.ev, Option.some.injEq] at hv
  subst hv
  simp only [VR, Act.eval]
  exact ⟨#[], rfl, by simp [VRs]⟩
 | global g => simp [Env.ev] at hv
theorem Mid.guard (ok : Dk ops = true) (m : Mid P T ops E Hs μ0 w0 listed a w μ lo hi) (ta : a.tmps.size = (E 0).length) (cl : Ei ops (Lst listed)) (ho : ops[k]? = some o) (hnl : ¬ Lst listed k) (hr : GX ops (Lst listed) k) : Region.wanted o (yielded ops a.tmps) = guardOf ops (E k) o := by
 have hks : k < ops.size := (Array.getElem?_eq_some_iff.1 ho).1
 by_cases hh : ∃ t, Fh ops o = some t ∧ (E 0).length ≤ t
 ·obtain ⟨t, ht, hge⟩ := hh
  unfold Fh at ht
  unfold Region.wanted guardOf
  cases hg : o.guard with
  | none => rfl
  | some jw =>
   obtain ⟨j, want⟩ := jw
   rw [hg] at ht
   simp only at ht ⊢
   unfold yielded
   rw [ht]
   simp only [Option.bind_some]
   rw [List.getElem?_eq_none (by rw [r.len (by omega)]; exact hge), Array.getElem?_eq_none (by omega)]
   rfl
 ·refine MA (μ := μ.cut (Hs k).length) fun t ht => ?_
  have hl : t < (E 0).length := by
   apply Nat.lt_of_not_le
   intro hge
   exact hh ⟨t, ht, hge⟩
  exact m.look r ok cl ho hnl hr hl (.inl (List.mem_append_right _ (by simp [ht])))
end
theorem Md (r : Run P T ops E Hs) (ok : Dk ops = true) {listed : Array Bool} {a : Act} {μ μ' : Mu} {k : Nat} {o : Oper} {v : V} {cv : Value} (hsz : listed.size = ops.size) (cl : Ei ops (Lst listed)) (ho : ops[k]? = some o) (hnl : ¬ Lst listed k) (hr : GX ops (Lst listed) k) (hE : E (k + 1) = (E k).put o.dst v) (ta : a.tmps.size = (E 0).length)
  (hμ : Mu.Le μ μ') (hv : VR (μ'.cut (Hs (k + 1)).length) v cv)
  (vals : ∀ t, t < (E 0).length → ∃ k', k' ≤ ops.size ∧ (k' = 0 ∨ ∃ o, ops[k' - 1]? = some o ∧ o.dst = some t) ∧ (∀ (i : Nat) o, ops[i]? = some o → o.dst = some t → (Lst listed i ↔ i < k')) ∧
   ∃ v cv, (E k')[t]? = some v ∧ a.tmps[t]? = some cv ∧ VR (μ.cut (Hs k').length) v cv) :
  ∀ t, t < (E 0).length → ∃ k', k' ≤ ops.size ∧ (k' = 0 ∨ ∃ o, ops[k' - 1]? = some o ∧ o.dst = some t) ∧ (∀ (i : Nat) o, ops[i]? = some o → o.dst = some t → (Lst (listed.setIfInBounds k true) i ↔ i < k')) ∧
   ∃ v cv', (E k')[t]? = some v ∧ (a.put o.dst cv).tmps[t]? = some cv' ∧ VR (μ'.cut (Hs k').length) v cv' := by
 intro t ht
 have hks : k < ops.size := (Array.getElem?_eq_some_iff.1 ho).1
 have hkl : k < listed.size := by omega
 by_cases hd : o.dst = some t
 ·refine ⟨k + 1, by omega, .inr ⟨o, by simpa using ho, hd⟩, fun i oi hi hdi => ?_, v, cv, ?_, ?_, hv⟩
  ·rw [Lst.set hkl]
   by_cases hik : i = k
   ·subst hik; simp
   ·rw [Rq r ok cl ho hnl hr (.inr hd) hi hdi hik]
    constructor
    ·rintro (h | h) <;> omega
    ·intro h; exact .inr (by omega)
  ·rw [hE, hd]
   simp only [Env.put]
   rw [List.getElem?_set_self (by rw [r.len (by omega)]; exact ht)]
  ·rw [hd]
   simp only [Act.put]
   rw [Array.getElem?_setIfInBounds_self_of_lt (by omega)]
 ·obtain ⟨k', h1, h2, h3, v', cv', h4, h5, h6⟩ := vals t ht
  refine ⟨k', h1, h2, fun i oi hi hdi => ?_, v', cv', h4, ?_, h6.mono (Mu.VQ hμ)⟩
  ·rw [Lst.set hkl]
   rw [← h3 i oi hi hdi]
   constructor
   ·rintro (h | h)
    ·subst h
     rw [ho] at hi
     obtain rfl := Option.some.inj hi
     exact absurd hdi hd
    ·exact h
   ·exact .inr
  ·cases hdd : o.dst with
   | none => exact h5
   | some d =>
    simp only [Act.put]
    rw [Array.getElem?_setIfInBounds_ne (fun e => hd (by rw [hdd, e]))]
    exact h5
theorem Mh {listed : Array Bool} {k : Nat} (hkl : k < listed.size) (cl : Ei ops (Lst listed)) (hr : GX ops (Lst listed) k) : Ei ops (Lst (listed.setIfInBounds k true)) := fun j o ho hj e he hb => by
 rw [Lst.set hkl] at hj ⊢
 rcases hj with rfl | hj
 ·exact .inr (hr o ho e he hb)
 ·exact .inr (cl j o ho hj e he hb)
end Go.Proofs.YtncjbjlmgnjhiaaGreat.VM
namespace Go.Proofs.YtncjbjlmgnjhiaaGreat.VM
open Go
set_option linter.unusedVariables false
set_option linter.unusedSimpArgs false
set_option linter.unusedSectionVars false
variable {P : Program} {T : Tab} {ops : Array Oper} {E : Nat → Env} {Hs : Nat → Heap} {μ0 : Mu} {w0 : World} {listed : Array Bool} {a : Act} {w : World} {μ : Mu} {lo hi k : Nat} {o : Oper}
theorem Um (hl0 : ∀ b x, μ0 b = some x → b < (Hs 0).length) (r : Run P T ops E Hs) (ok : Dk ops = true) (m : Mid P T ops E Hs μ0 w0 listed a w μ lo hi) (hsz : listed.size = ops.size) (cl : Ei ops (Lst listed)) (ta : a.tmps.size = (E 0).length)
  (ho : ops[k]? = some o) (hnl : ¬ Lst listed k) (hr : GX ops (Lst listed) k) (hlo : lo ≤ k) (hhi : k < hi) {v : V} (hE : E (k + 1) = (E k).put o.dst v) {cv : Value} {w' : World} {μ' : Mu}
  (hv : VR μ' v cv) (s' : Sim μ' (Hs (k + 1)) w') (t' : Tr (μ.cut (Hs k).length) (Hs k) w μ' (Hs (k + 1)) w') :
  ∃ μ'', Mid P T ops E Hs μ0 w0 (listed.setIfInBounds k true) (a.put o.dst cv) w' μ'' lo hi := by
 have hks : k < ops.size := (Array.getElem?_eq_some_iff.1 ho).1
 have hkl : k < listed.size := by omega
 have p1 : Hs k <+: Hs (k + 1) := m.quiet k hlo hhi
 have p2 : Hs (k + 1) <+: Hs hi := CN m.quiet (by omega) hhi (Nat.le_refl _)
 have len1 : (Hs k).length ≤ (Hs (k + 1)).length := p1.length_le
 -- nothing of this operation's lay there
 have fresh0 : ∀ b, (Hs k).length ≤ b → b < (Hs (k + 1)).length → μ b = none := fun b h1 h2 => by
  cases hb : μ b with
  | none => rfl
  | some x =>
   exfalso
   rcases m.dom b x hb with h | ⟨j, j1, j2, j3, j4, j5⟩
   ·have := (CN m.quiet (Nat.le_refl _) hlo (by omega)).length_le
    omega
   ·by_cases hjk : j = k
    ·subst hjk; exact hnl j1
    ·rcases Nat.lt_or_gt_of_ne hjk with h | h
     ·have := (CN m.quiet (by omega : lo ≤ j + 1) (by omega : j + 1 ≤ k) (by omega)).length_le
      omega
     ·have := (CN m.quiet (by omega : lo ≤ k + 1) (by omega : k + 1 ≤ j) (by omega)).length_le
      omega
 let μ'' : Mu := fun b => if b < (Hs (k + 1)).length then μ' b else μ b
 have low : ∀ b x, b < (Hs k).length → (μ' b = some x ↔ μ b = some x) := fun b x hb => by
  constructor
  ·intro h
   cases hm : μ b with
   | some y =>
    have := t'.ext b y (by rw [Mu.Ge hb]; exact hm)
    rw [h] at this; exact this.symm
   | none =>
    have := (t'.fresh b x h (by rw [Mu.Ge hb]; exact hm)).1
    omega
  ·intro h; exact t'.ext b x (by rw [Mu.Ge hb]; exact h)
 have ext : Mu.Le μ μ'' := fun b x hx => by
  show (if b < (Hs (k + 1)).length then μ' b else μ b) = some x
  split
  ·rename_i hb
   by_cases hbk : b < (Hs k).length
   ·exact (low b x hbk).2 hx
   ·rw [fresh0 b (by omega) hb] at hx; cases hx
  ·exact hx
 have ext' : Mu.Le μ' μ'' := fun b x hx => by
  show (if b < (Hs (k + 1)).length then μ' b else μ b) = some x
  rw [if_pos (s'.lt b x hx).1]; exact hx
 have cut' : Mu.Le μ' (μ''.cut (Hs (k + 1)).length) := fun b x hx => by
  have hb := (s'.lt b x hx).1
  rw [Mu.Ge hb]; exact ext' b x hx
 -- what lay behind its blocks is as it was
 have far : ∀ b x q, μ b = some x → (Hs hi)[b]? = some q → q ≠ .dead → (Hs (k + 1)).length ≤ b → w'.heap[x.B]? = w.heap[x.B]? := fun b x q hx hq hd hb => by
  refine t'.frame x.B (m.sim.lt b x hx).2 fun b0 x0 q0 hx0 hq0 ho0 => ?_
  obtain ⟨c1, c2⟩ := Mu.Cm hx0
  have hq0' : (Hs hi)[b0]? = some q0 := by
   rw [Cp (CN m.quiet hlo (by omega) (Nat.le_refl _)) c1]; exact hq0
  exact fun e => m.sim.sole b0 x0 q0 c2 hq0' ho0 b x q (by omega) hx hq hd e.symm
 have cellf : ∀ {B : Nat}, w'.heap[B]? = w.heap[B]? → ∀ i, w'.cell? ⟨B, i, none⟩ = w.cell? ⟨B, i, none⟩ := fun h i => by simp only [World.cell?, h]
 have frzf : ∀ {B : Nat}, w'.heap[B]? = w.heap[B]? → ∀ i, w'.frozen? ⟨B, i, none⟩ = w.frozen? ⟨B, i, none⟩ := fun h i => by simp only [World.frozen?, h]
 have two : ∀ b x, μ'' b = some x → (b < (Hs (k + 1)).length ∧ μ' b = some x) ∨ ((Hs (k + 1)).length ≤ b ∧ μ b = some x) := fun b x hx => by
  have hx' : (if b < (Hs (k + 1)).length then μ' b else μ b) = some x := hx
  split at hx'
  ·rename_i h; exact .inl ⟨h, hx'⟩
  ·rename_i h; exact .inr ⟨by omega, hx'⟩
 have back : ∀ b q, b < (Hs (k + 1)).length → (Hs hi)[b]? = some q → (Hs (k + 1))[b]? = some q := fun b q hb hq => by
  rw [Cp p2 hb] at hq; exact hq
 -- where a new block of this operation's Js
 have newB : ∀ b x q, (Hs k).length ≤ b → μ' b = some x → (Hs (k + 1))[b]? = some q → w.heap.size ≤ x.B := fun b x q hb hx hq => by
  have hn : μ.cut (Hs k).length b = none := by unfold Mu.cut; rw [if_neg (by omega)]
  rcases (t'.fresh b x hx hn).2 with h | ⟨b0, x0, q0, e1, e2, e3, e4, e5⟩
  ·exact h
  ·exfalso
   have hb0 := (List.getElem?_eq_some_iff.1 e3).1
   rw [Cp p1 hb0, e3] at e5
   obtain rfl := Option.some.inj e5
   simp [Blk.own] at e4
 have S'' : Sim μ'' (Hs hi) w' := by
  refine ⟨fun b x hx => ?_, fun b x cs wr hx hb i u hi' => ?_, fun b x cs wr hx hb => ?_, fun b x cs hx hb i => ?_, fun b x q hx hb hown b2 x2 q2 hne hx2 hb2 hd => ?_, fun b x es hx hb => ?_⟩
  ·rcases two b x hx with ⟨h1, h2⟩ | ⟨h1, h2⟩
   ·exact ⟨Nat.lt_of_lt_of_le h1 p2.length_le, (s'.lt b x h2).2⟩
   ·exact ⟨(m.sim.lt b x h2).1, Nat.lt_of_lt_of_le (m.sim.lt b x h2).2 t'.size⟩
  ·rcases two b x hx with ⟨h1, h2⟩ | ⟨h1, h2⟩
   ·obtain ⟨g1, c, g2, g3⟩ := s'.row b x cs wr h2 (back _ _ h1 hb) i u hi'
    exact ⟨g1, c, g2, g3.mono ext'⟩
   ·obtain ⟨g1, c, g2, g3⟩ := m.sim.row b x cs wr h2 hb i u hi'
    exact ⟨g1, c, by rw [cellf (far b x _ h2 hb (by simp) h1)]; exact g2, g3.mono ext⟩
  ·rcases two b x hx with ⟨h1, h2⟩ | ⟨h1, h2⟩
   ·exact s'.ext b x cs wr h2 (back _ _ h1 hb)
   ·obtain ⟨g1, g2⟩ := m.sim.ext b x cs wr h2 hb
    exact ⟨g1, fun i hi' => by rw [cellf (far b x _ h2 hb (by simp) h1)]; exact g2 i hi'⟩
  ·rcases two b x hx with ⟨h1, h2⟩ | ⟨h1, h2⟩
   ·exact s'.free b x cs h2 (back _ _ h1 hb) i
   ·rw [frzf (far b x _ h2 hb (by simp) h1)]; exact m.sim.free b x cs h2 hb i
  ·rcases two b x hx with ⟨h1, h2⟩ | ⟨h1, h2⟩ <;> rcases two b2 x2 hx2 with ⟨g1, g2⟩ | ⟨g1, g2⟩
   ·exact s'.sole b x q h2 (back _ _ h1 hb) hown b2 x2 q2 hne g2 (back _ _ g1 hb2) hd
   ·by_cases hbk : b < (Hs k).length
    ·exact m.sim.sole b x q ((low b x hbk).1 h2) hb hown b2 x2 q2 hne g2 hb2 hd
    ·have := newB b x q (by omega) h2 (back _ _ h1 hb)
     have := (m.sim.lt b2 x2 g2).2
     omega
   ·by_cases hbk : b2 < (Hs k).length
    ·exact m.sim.sole b x q h2 hb hown b2 x2 q2 hne ((low b2 x2 hbk).1 g2) hb2 hd
    ·have := newB b2 x2 q2 (by omega) g2 (back _ _ g1 hb2)
     have := (m.sim.lt b x h2).2
     omega
   ·exact m.sim.sole b x q h2 hb hown b2 x2 q2 hne g2 hb2 hd
  ·rcases two b x hx with ⟨h1, h2⟩ | ⟨h1, h2⟩
   ·exact s'.mp b x es h2 (back _ _ h1 hb)
   ·obtain ⟨mm, cl', g1, g2⟩ := m.sim.mp b x es h2 hb
    exact ⟨mm, cl', by rw [far b x _ h2 hb (by simp) h1]; exact g1, g2⟩
 refine ⟨μ'', ⟨m.lohi, m.hin, m.quiet, fun j oj hj ht hjl => ?_, fun j oj hj ht hjh hl => ?_, S'', fun b x hx => ?_, fun b x cs wr hx hb mm h1 h2 hbm i u hiu c hc => ?_, ?_, ?_⟩⟩
 ·rw [Lst.set hkl]; exact (m.done j oj hj ht hjl).imp .inr id
 ·rw [Lst.set hkl] at hl
  rcases hl with rfl | hl
  ·omega
  ·exact m.todo j oj hj ht hjh hl
 ·rcases two b x hx with ⟨h1, h2⟩ | ⟨h1, h2⟩
  ·by_cases hbk : b < (Hs k).length
   ·rcases m.dom b x ((low b x hbk).1 h2) with h | ⟨j, j1, j2, j3, j4⟩
    ·exact .inl h
    ·exact .inr ⟨j, (Lst.set hkl).2 (.inr j1), j2, j3, j4⟩
   ·exact .inr ⟨k, (Lst.set hkl).2 (.inl rfl), hlo, hhi, by omega, h1⟩
  ·rcases m.dom b x h2 with h | ⟨j, j1, j2, j3, j4⟩
   ·exact .inl h
   ·exact .inr ⟨j, (Lst.set hkl).2 (.inr j1), j2, j3, j4⟩
 ·by_cases hbn : (Hs k).length ≤ b ∧ b < (Hs (k + 1)).length
  ·rcases two b x hx with ⟨g1, g2⟩ | ⟨g1, g2⟩
   ·obtain ⟨_, c0, _, hc0⟩ := s'.row b x cs wr g2 (back _ _ g1 hb) i u hiu
    have := (VR.back ext' hc0 hc).mono cut'
    refine this.mono (Mu.Np ?_)
    have hmk : k + 1 ≤ mm := by
     apply Nat.le_of_not_lt
     intro hlt
     have := (CN m.quiet h1 (by omega : mm ≤ k) (by omega)).length_le
     omega
    exact (CN m.quiet (by omega) hmk h2).length_le
   ·omega
  ·have hμb : μ b = some x := by
    rcases two b x hx with ⟨g1, g2⟩ | ⟨g1, g2⟩
    ·exact (low b x (by omega)).1 g2
    ·exact g2
   obtain ⟨_, c0, _, hc0⟩ := m.sim.row b x cs wr hμb hb i u hiu
   exact (m.wf b x cs wr hμb hb mm h1 h2 hbm i u hiu c (VR.back ext hc0 hc)).mono (Mu.VQ ext)
 ·exact Md r ok hsz cl ho hnl hr hE ta ext (hv.mono cut') m.vals
 ·refine ⟨m.tr.ext.trans ext, fun b x hx hn => ?_, m.tr.stay, Nat.le_trans m.tr.size t'.size, fun B hB hno => ?_, t'.os.trans m.tr.os, t'.tape.trans m.tr.tape, t'.output.trans m.tr.output⟩
  ·by_cases hbn : (Hs k).length ≤ b ∧ b < (Hs (k + 1)).length
   ·rcases two b x hx with ⟨g1, g2⟩ | ⟨g1, g2⟩
    ·refine ⟨Nat.le_trans (r.mono (Nat.zero_le k) (by omega)) hbn.1, .inl ?_⟩
     have hq : ∃ q, (Hs (k + 1))[b]? = some q := ⟨(Hs (k + 1))[b], by simp [g1]⟩
     obtain ⟨q, hq⟩ := hq
     exact Nat.le_trans m.tr.size (newB b x q hbn.1 g2 hq)
    ·omega
   ·have hμb : μ b = some x := by
     rcases two b x hx with ⟨g1, g2⟩ | ⟨g1, g2⟩
     ·exact (low b x (by omega)).1 g2
     ·exact g2
    exact m.tr.fresh b x hμb hn
  ·rw [t'.frame B (Nat.lt_of_lt_of_le hB m.tr.size) ?_, m.tr.frame B hB hno]
   intro b x q hx hq hown heq
   obtain ⟨c1, c2⟩ := Mu.Cm hx
   cases h0 : μ0 b with
   | some y =>
    obtain rfl : x = y := Option.some.inj (c2.symm.trans (m.tr.ext _ _ h0))
    have hq' : (Hs hi)[b]? = some q := by
     rw [Cp (CN m.quiet hlo (by omega) (Nat.le_refl _)) c1]; exact hq
    cases hg : (Hs 0)[b]? with
    | some q0 =>
     obtain ⟨q1, e1, e2⟩ := m.tr.stay b q0 hg
     rw [hq'] at e1
     obtain rfl := Option.some.inj e1
     exact hno b x q0 h0 hg (OT e2 hown) heq
    | none =>
     have : (Hs 0).length ≤ b := by simpa using hg
     have := hl0 b x h0
     omega
   | none =>
    rcases (m.tr.fresh b x c2 h0).2 with h3 | ⟨b1, x1, q1, f1, f2, f3, f4, f5⟩
    ·omega
    ·exact hno b1 x1 q1 f1 f3 f4 (f2.trans heq)
theorem Gv (r : Run P T ops E Hs) (ok : Dk ops = true) (m : Mid P T ops E Hs μ0 w0 listed a w μ lo hi) (hsz : listed.size = ops.size) (cl : Ei ops (Lst listed)) (ta : a.tmps.size = (E 0).length)
  (ho : ops[k]? = some o) (hnl : ¬ Lst listed k) (hr : GX ops (Lst listed) k) (ht : touches o.op = false ∨ k < hi) {v : V} (hE : E (k + 1) = (E k).put o.dst v) {cv : Value} (hv : VR (μ.cut (Hs (k + 1)).length) v cv) :
  Mid P T ops E Hs μ0 w0 (listed.setIfInBounds k true) (a.put o.dst cv) w μ lo hi := by
 have hks : k < ops.size := (Array.getElem?_eq_some_iff.1 ho).1
 have hkl : k < listed.size := by omega
 refine ⟨m.lohi, m.hin, m.quiet, fun j oj hj htj hjl => ?_, fun j oj hj htj hjh hl => ?_, m.sim, fun b x hx => ?_, m.wf, Md r ok hsz cl ho hnl hr hE ta (Mu.Le.refl _) hv m.vals, m.tr⟩
 ·rw [Lst.set hkl]; exact (m.done j oj hj htj hjl).imp .inr id
 ·rw [Lst.set hkl] at hl
  rcases hl with rfl | hl
  ·rcases ht with ht | ht
   ·rw [ho] at hj
    obtain rfl := Option.some.inj hj
    rw [ht] at htj; cases htj
   ·omega
  ·exact m.todo j oj hj htj hjh hl
 ·rcases m.dom b x hx with h | ⟨j, j1, j2, j3, j4⟩
  ·exact .inl h
  ·exact .inr ⟨j, (Lst.set hkl).2 (.inr j1), j2, j3, j4⟩
theorem Vn (r : Run P T ops E Hs) (m : Mid P T ops E Hs μ0 w0 listed a w μ lo hi) (cl : Ei ops (Lst listed)) (ho : ops[k]? = some o) (hnl : ¬ Lst listed k) (hr : GX ops (Lst listed) k) (hq : ¬ Hs k <+: Hs (k + 1)) :
  hi ≤ k ∧ Hs k = Hs hi := by
 have hks : k < ops.size := (Array.getElem?_eq_some_iff.1 ho).1
 obtain ⟨ht, hb⟩ := r.eI ho hq
 have hge : hi ≤ k := by
  apply Nat.le_of_not_lt
  intro hlt
  by_cases hlo : lo ≤ k
  ·exact hq (m.quiet k hlo hlt)
  ·rcases m.done k o ho ht (by omega) with h' | h'
   ·exact hnl h'
   ·obtain ⟨t, x, e⟩ := HK h' ho
    rcases r.step k o ho with ⟨_, v, st, _⟩ | ⟨_, _, hH⟩
    ·rw [e] at st; exact hq (by rw [st.MI.2]; exact List.prefix_refl _)
    ·exact hq (by rw [hH]; exact List.prefix_refl _)
 refine ⟨hge, ?_⟩
 have : ∀ j, hi ≤ j → j ≤ k → Hs j = Hs hi := by
  intro j
  induction j with
  | zero => intro h1 _; rw [show hi = 0 by omega]
  | succ j ih =>
   intro h1 h2
   by_cases hj : hi = j + 1
   ·rw [hj]
   ·obtain ⟨oj, hoj⟩ : ∃ o, ops[j]? = some o := ⟨ops[j]'(by omega), by simp⟩
    cases htj : touches oj.op with
    | false => rw [r.still hoj htj]; exact ih (by omega) (by omega)
    | true =>
     rcases Nf hb hoj htj (by omega) with hba | hla
     ·exact absurd (Hl cl (.inr hr) hba) (m.todo j oj hoj htj (by omega))
     ·obtain ⟨t, x, e⟩ := HK hla hoj
      have hsame : Hs (j + 1) = Hs j := by
       rcases r.step j oj hoj with ⟨_, v, st, _⟩ | ⟨_, _, hH⟩
       ·rw [e] at st; exact st.MI.2
       ·exact hH
      rw [hsame]; exact ih (by omega) (by omega)
 exact this k hge (Nat.le_refl _)
theorem Wv (r : Run P T ops E Hs) (ok : Dk ops = true) (m : Mid P T ops E Hs μ0 w0 listed a w μ lo hi) (hl0 : ∀ b x, μ0 b = some x → b < (Hs 0).length) (hsz : listed.size = ops.size) (cl : Ei ops (Lst listed)) (ta : a.tmps.size = (E 0).length)
  (ho : ops[k]? = some o) (hnl : ¬ Lst listed k) (hr : GX ops (Lst listed) k) (hq : ¬ Hs k <+: Hs (k + 1)) {v : V} (hE : E (k + 1) = (E k).put o.dst v) {cv : Value} {w' : World} {μ' : Mu}
  (hv : VR μ' v cv) (s' : Sim μ' (Hs (k + 1)) w') (t' : Tr μ (Hs k) w μ' (Hs (k + 1)) w') :
  Mid P T ops E Hs μ0 w0 (listed.setIfInBounds k true) (a.put o.dst cv) w' μ' (k + 1) (k + 1) := by
 have hks : k < ops.size := (Array.getElem?_eq_some_iff.1 ho).1
 have hkl : k < listed.size := by omega
 obtain ⟨ht, hb⟩ := r.eI ho hq
 obtain ⟨hge, hh⟩ := Vn r m cl ho hnl hr hq
 have cl' := Mh hkl cl hr
 refine ⟨Nat.le_refl _, by omega, fun j h1 h2 => by omega, fun j oj hj htj hjl => ?_, fun j oj hj htj hjh hl => ?_, s', fun b x hx => .inl (s'.lt b x hx).1, fun b x cs wr hx hbb mm h1 h2 hbm i u hiu c hc => ?_, ?_, ?_⟩
 ·rw [Lst.set hkl]
  by_cases hjk : j = k
  ·exact .inl (.inl hjk)
  ·rcases Nf hb hj htj (by omega) with h | h
   ·exact .inl (.inr (Hl cl (.inr hr) h))
   ·exact .inr h
 ·rw [Lst.set hkl] at hl
  rcases hl with rfl | hl
  ·omega
  ·exact hnl (Hl cl (.inl hl) (Nd hb hj htj (by omega)))
 ·obtain rfl : mm = k + 1 := by omega
  exact hc.mono (NK s')
 ·exact Md r ok hsz cl ho hnl hr hE ta t'.ext (hv.mono (NK s')) m.vals
 ·refine Tr.trans ?_ t' hl0
  rw [hh]; exact m.tr
theorem Kd {md : Region.Mode} (h : k ∈ Region.ready md ops listed) (hsz : listed.size = ops.size) : (∃ o, ops[k]? = some o) ∧ ¬ Lst listed k ∧ (md = .any → GX ops (Lst listed) k) := by
 obtain ⟨h1, o, ho, h2⟩ := mem_ready.1 h
 have hks : k < ops.size := (Array.getElem?_eq_some_iff.1 ho).1
 refine ⟨⟨o, ho⟩, fun hl => ?_, fun hm o' ho' e he hb => ?_⟩
 ·unfold Lst at hl
  have : k < listed.size := by omega
  simp only [Array.getD_eq_getD_getElem?, Array.getElem?_eq_getElem this, Option.getD_some] at h1 hl
  rw [hl] at h1; cases h1
 ·subst hm
  rw [ho] at ho'
  obtain rfl := Option.some.inj ho'
  exact h2 e he hb
theorem Yr (fit : Fits P T) {e : Env} {h : Heap} (s : Sim μ h w) (hl : Mf μ e a o.op) {t : Nat} {x : Operand} (ho : o.op = .load t x) {v : V} (hm : memOp T e.ev h o.op = some (v, h)) : ∃ cv, VR μ v cv ∧ (execOp a.eval o).run P w = .ok (.value cv) w := by
 rw [ho] at hm
 simp only [memOp] at hm
 split at hm
 ·rename_i i b off hT hx
  have hx' := hl x (by rw [ho]; simp [Op.operands]) _ hx
  simp only [VR] at hx'
  obtain ⟨y, hy, ey⟩ := hx'
  obtain ⟨cv, h1, h2⟩ := load_sound fit s hT hy hm
  refine ⟨cv, h2, ?_⟩
  simp only [execOp, ho, ey]
  exact Bd h1
 ·cases hm
theorem Yj (fit : Fits P T) (r : Run P T ops E Hs) (ok : Dk ops = true) (hl0 : ∀ b x, μ0 b = some x → b < (Hs 0).length) (iv : Inv P T ops E Hs μ0 w0 listed a w) (hk : k ∈ Region.ready .any ops listed) (Q : Exit → Act → World → Prop) :
  wpOp P ops Q k (Inv P T ops E Hs μ0 w0 (listed.setIfInBounds k true)) a w := by
 obtain ⟨⟨o, ho⟩, hnl, hr⟩ := Kd hk iv.size
 have hr := hr rfl
 obtain ⟨μ, lo, hi, m⟩ := iv.mid
 have hks : k < ops.size := (Array.getElem?_eq_some_iff.1 ho).1
 have hkl : k < listed.size := by rw [iv.size]; exact hks
 have cl' := Mh hkl iv.closed hr
 have hg := m.guard r ok iv.tmps iv.closed ho hnl hr
 have tsz : ∀ cv, (a.put o.dst cv).tmps.size = (E 0).length := fun cv => by
  rw [← iv.tmps]; cases o.dst <;> simp [Act.put]
 have df : ∀ cv, (a.put o.dst cv).defers = [] := fun cv => by rw [← iv.defers]; cases o.dst <;> rfl
 have fin : ∀ {cv w' μ' lo' hi'}, Mid P T ops E Hs μ0 w0 (listed.setIfInBounds k true) (a.put o.dst cv) w' μ' lo' hi' → Inv P T ops E Hs μ0 w0 (listed.setIfInBounds k true) (a.put o.dst cv) w' := fun h =>
  ⟨by simp [iv.size], cl', tsz _, df _, _, _, _, h⟩
 unfold wpOp
 simp only [ho, hg]
 rcases r.step k o ho with ⟨hgo, v, st, hE, hlen, hqb⟩ | ⟨hgo, hE, hH⟩
 ·rw [hgo]
  simp only [if_true]
  refine .inl ?_
  cases ht : touches o.op with
  | false =>
   obtain ⟨hp, hH⟩ := st.MO ht
   obtain ⟨cv, k1, k2⟩ := Vw fit (m.looks r ok iv.closed ho hnl hr) hp
   unfold Oper.wp
   rw [k2 w]
   exact fin (Gv r ok m iv.size iv.closed iv.tmps ho hnl hr (.inl ht) hE (by rw [hH]; exact k1))
  | true =>
   by_cases hq : Hs k <+: Hs (k + 1)
   ·by_cases hlt : CL ops k = true ∧ k < lo
    ·-- a load behind a store that need not have waited for it
     obtain ⟨t, x, e⟩ := HK hlt.1 ho
     obtain ⟨v', hE', hu, hmem⟩ := r.late k o ho hlt.1 hgo
     have hlh := m.lohi
     have hm' := hmem hi (by omega) m.hin
     have lk : Mf μ (E k) a o.op := fun x hx u hu => (m.looks r ok iv.closed ho hnl hr x hx u hu).mono (Mu.UG _ _)
     obtain ⟨cv, k1, k2⟩ := Yr fit m.sim lk e hm'
     unfold Oper.wp
     rw [k2]
     exact fin (Gv r ok m iv.size iv.closed iv.tmps ho hnl hr (.inr (by omega)) hE' (VR.under hu k1))
    obtain ⟨hi', hlo, hhi, m'⟩ := m.reach r iv.closed ho ht hnl hr hq (fun h => by
     apply Nat.le_of_not_lt
     intro h'; exact hlt ⟨h, h'⟩)
    have pk : Hs k <+: Hs hi' := CN m'.quiet hlo (by omega) (Nat.le_refl _)
    have sk := m'.sim.WI pk (fun b x cs wr hx hb hrow i u hiu c hc => m'.wf b x cs wr hx hrow k hlo (by omega) hb i u hiu c hc)
    refine Ug fit sk (m'.looks r ok iv.closed ho hnl hr) st fun cv w' μ' hv s' t' => ?_
    obtain ⟨μ'', m''⟩ := Um hl0 r ok m' iv.size iv.closed iv.tmps ho hnl hr hlo hhi hE hv s' t'
    exact fin m''
   ·obtain ⟨hge, hh⟩ := Vn r m iv.closed ho hnl hr hq
    have sk : Sim μ (Hs k) w := by rw [hh]; exact m.sim
    have lk : Mf μ (E k) a o.op := fun x hx u hu => (m.looks r ok iv.closed ho hnl hr x hx u hu).mono (Mu.UG _ _)
    refine Ug fit sk lk st fun cv w' μ' hv s' t' => ?_
    exact fin (Wv r ok m hl0 iv.size iv.closed iv.tmps ho hnl hr hq hE hv s' t')
 ·rw [hgo]
  simp only [Bool.false_eq_true, if_false]
  cases ht : touches o.op with
  | false => exact fin (Gv r ok m iv.size iv.closed iv.tmps ho hnl hr (.inl ht) hE VR.undef)
  | true =>
   by_cases hlt : CL ops k = true ∧ k < lo
   ·have hlh := m.lohi
    exact fin (Gv r ok m iv.size iv.closed iv.tmps ho hnl hr (.inr (by omega)) hE VR.undef)
   obtain ⟨hi', hlo, hhi, m'⟩ := m.reach r iv.closed ho ht hnl hr (by rw [hH]; exact List.prefix_refl _) (fun h => by
    apply Nat.le_of_not_lt
    intro h'; exact hlt ⟨h, h'⟩)
   exact fin (Gv r ok m' iv.size iv.closed iv.tmps ho hnl hr (.inr hhi) hE VR.undef)
def Xs (E : Env) (H : Heap) (H0 : Heap) (μ0 : Mu) (w0 : World) (a : Act) (w : World) : Prop := ∃ μ, Sim μ H w ∧ FR μ E a.tmps ∧ Tr μ0 H0 w0 μ H w ∧ a.defers = []
theorem Vi (r : Run P T ops E Hs) (iv : Inv P T ops E Hs μ0 w0 listed a w) (hall : ∀ k, k < ops.size → Lst listed k) : Xs (E ops.size) (Hs ops.size) (Hs 0) μ0 w0 a w := by
 obtain ⟨μ, lo, hi, m⟩ := iv.mid
 have hH : ∀ j, hi ≤ j → j ≤ ops.size → Hs j = Hs hi := by
  intro j
  induction j with
  | zero => intro h1 _; rw [show hi = 0 by omega]
  | succ j ih =>
   intro h1 h2
   by_cases hj : hi = j + 1
   ·rw [hj]
   ·obtain ⟨oj, hoj⟩ : ∃ o, ops[j]? = some o := ⟨ops[j]'(by omega), by simp⟩
    cases htj : touches oj.op with
    | false => rw [r.still hoj htj]; exact ih (by omega) (by omega)
    | true => exact absurd (hall j (by omega)) (m.todo j oj hoj htj (by omega))
 have hn := hH ops.size m.hin (Nat.le_refl _)
 refine ⟨μ, by rw [hn]; exact m.sim, ?_, by rw [hn]; exact m.tr, iv.defers⟩
 refine VRs.KY (by rw [Array.length_toList, iv.tmps, r.len (Nat.le_refl _)]) fun t v ht => ?_
 have htl : t < (E 0).length := by rw [← r.len (Nat.le_refl ops.size)]; exact (List.getElem?_eq_some_iff.1 ht).1
 obtain ⟨k', h1, h2, h3, v', cv, h4, h5, h6⟩ := m.vals t htl
 have hs := r.same h1 (Nat.le_refl _) (fun i o ho hi1 hi2 hd => by have := (h3 i o ho hd).1 (hall i hi2); omega)
 rw [ht, h4] at hs
 obtain rfl := Option.some.inj hs
 exact ⟨cv, by simpa using h5, h6.mono (Mu.UG _ _)⟩
theorem Nl {listed : Array Bool} {k : Nat} (hk : k < listed.size) (hn : ¬ Lst listed k) : (listed.setIfInBounds k true).toList.count false + 1 = listed.toList.count false := by
 have hf : listed[k] = false := by
  unfold Lst at hn
  simp only [Array.getD_eq_getD_getElem?, Array.getElem?_eq_getElem hk, Option.getD_some] at hn
  simpa using hn
 rw [Array.toList_setIfInBounds, List.count_set (by simpa using hk)]
 have hp : 0 < listed.toList.count false := List.count_pos_iff.2 (by rw [← hf]; exact Array.getElem_mem_toList hk)
 simp only [Array.getElem_toList, hf, beq_self_eq_true, if_true]
 rw [if_neg (by decide)]
 omega
theorem YN (fit : Fits P T) (r : Run P T ops E Hs) (ok : Dk ops = true) (hl0 : ∀ b x, μ0 b = some x → b < (Hs 0).length) {Q : Exit → Act → World → Prop} (hQ : ∀ a w, Xs (E ops.size) (Hs ops.size) (Hs 0) μ0 w0 a w → Q .normal a w) :
  ∀ (fuel : Nat) (listed : Array Bool) (a : Act) (w : World), Inv P T ops E Hs μ0 w0 listed a w → listed.toList.count false ≤ fuel → wpAny P .any ops Q fuel listed a w := by
 have allEnd : ∀ (listed : Array Bool), listed.size = ops.size → Region.ready .any ops listed = [] → ∀ k, k < ops.size → Lst listed k := by
  intro listed hsz hre k
  induction k using Nat.strongRecOn with
  | _ k ih =>
   intro hk
   by_cases hl : Lst listed k
   ·exact hl
   ·exfalso
    have : k ∈ Region.ready .any ops listed := by
     rw [mem_ready]
     have hkl : k < listed.size := by omega
     refine ⟨?_, ops[k], by simp, fun e he hb => ih e.on (Mk ok (k := k) (o := ops[k]) (by simp) he hb) ?_⟩
     ·unfold Lst at hl
      simp only [Array.getD_eq_getD_getElem?, Array.getElem?_eq_getElem hkl, Option.getD_some] at hl ⊢
      simpa using hl
     ·have := Mk ok (k := k) (o := ops[k]) (by simp) he hb
      omega
    rw [hre] at this; cases this
 intro fuel
 induction fuel with
 | zero =>
  intro listed a w iv hc
  have hre : Region.ready .any ops listed = [] := by
   cases hr : Region.ready .any ops listed with
   | nil => rfl
   | cons k l =>
    exfalso
    obtain ⟨⟨o, ho⟩, hnl, _⟩ := Kd (k := k) (md := .any) (by rw [hr]; simp) iv.size
    have := Nl (listed := listed) (k := k) (by rw [iv.size]; exact (Array.getElem?_eq_some_iff.1 ho).1) hnl
    omega
  exact ⟨hre, hQ _ _ (Vi r iv (allEnd listed iv.size hre))⟩
 | succ fuel ih =>
  intro listed a w iv hc
  refine ⟨fun hre => hQ _ _ (Vi r iv (allEnd listed iv.size hre)), fun k hk => ?_⟩
  refine wpOp_mono (fun a' w' iv' => ih _ _ _ iv' ?_) (Yj fit r ok hl0 iv hk Q)
  obtain ⟨⟨o, ho⟩, hnl, _⟩ := Kd hk iv.size
  have := Nl (listed := listed) (k := k) (by rw [iv.size]; exact (Array.getElem?_eq_some_iff.1 ho).1) hnl
  omega
theorem YO (fit : Fits P T) (hm : P.follows .mixedOrders = true) (r : Run P T ops E Hs) (ok : Dk ops = true) {id : Nat} {a : Act} {w : World} {μ : Mu} (s : Sim μ (Hs 0) w) (he : FR μ (E 0) a.tmps) (hd : a.defers = []) {Q : Exit → Act → World → Prop}
  (hQ : ∀ a' w', Xs (E ops.size) (Hs ops.size) (Hs 0) μ w a' w' → Q .normal a' w') : (Code.region id ops true).wp P Q a w := by
 refine wp_region_any hm ?_
 have s1 : Sim μ (Hs 0) { w with drawn := w.drawn + 1 } := s.of_heap rfl
 have t1 : Tr μ (Hs 0) w μ (Hs 0) { w with drawn := w.drawn + 1 } := Tr.of_heap rfl rfl rfl rfl
 refine YN (μ0 := μ) (w0 := w) fit r ok (fun b x h => (s.lt b x h).1) hQ _ _ _ _ ⟨by simp, ?_, ?_, hd, μ, 0, 0, ?_⟩ ?_
 ·intro k o ho hl
  exfalso
  unfold Lst at hl
  rw [Array.getD_eq_getD_getElem?] at hl
  cases hg : (Array.replicate ops.size false)[k]? with
  | none => rw [hg] at hl; simp at hl
  | some b =>
   rw [hg] at hl
   simp at hl
   have := (Array.getElem?_eq_some_iff.1 hg).2
   simp at this
   rw [hl] at this; cases this
 ·have := VRs.length he; simpa using this
 ·have nl : ∀ j, ¬ Lst (Array.replicate ops.size false) j := fun j hl => by
   unfold Lst at hl
   rw [Array.getD_eq_getD_getElem?] at hl
   cases hg : (Array.replicate ops.size false)[j]? with
   | none => rw [hg] at hl; simp at hl
   | some b =>
    rw [hg] at hl
    simp at hl
    have := (Array.getElem?_eq_some_iff.1 hg).2
    simp at this
    rw [hl] at this; cases this
  refine ⟨Nat.le_refl _, Nat.zero_le _, fun j _ h => by omega, fun j _ _ _ h => by omega, fun j _ _ _ _ => nl j, s1, fun b x hx => .inl (s.lt b x hx).1, fun b x cs wr hx hb m h1 h2 hbm i v hi cv hv => ?_, fun t ht => ?_, t1⟩
  ·obtain rfl : m = 0 := by omega
   exact hv.mono (NK s)
  ·refine ⟨0, Nat.zero_le _, .inl rfl, fun i o ho hdd => ⟨fun h => absurd h (nl i), fun h => by omega⟩, ?_⟩
   obtain ⟨cv, h1, h2⟩ := VRs.get he (i := t) (v := (E 0)[t]) (by simp [ht])
   exact ⟨(E 0)[t], cv, by simp [ht], by simpa using h1, h2.mono (NK s)⟩
 ·simp [List.count_replicate]
end Go.Proofs.YtncjbjlmgnjhiaaGreat.VM
namespace Go.Proofs.YtncjbjlmgnjhiaaGreat.VM
open Go
set_option linter.unusedVariables false
set_option linter.unusedSimpArgs false
set_option linter.unusedSectionVars false
variable {P : Program} {T : Tab}
def wpL (P : Program) (T : Tab) (ops : Array Oper) : List Oper → (Env → Heap → Prop) → Env → Heap → Prop
 | [], Q, e, h => Q e h
 | o :: rest, Q, e, h => (guardOf ops e o = true ∧ ∃ v h', Step P T e h o.op v h' ∧ wpL P T ops rest Q (e.put o.dst v) h') ∨ (guardOf ops e o = false ∧ wpL P T ops rest Q (e.put o.dst V.undef) h)
structure QW where
 e : Env
 op : Op
 v : V
def QW.holds (T : Tab) (h : Heap) (p : QW) : Prop := memOp T p.e.ev h p.op = some (p.v, h)
def wpD (P : Program) (T : Tab) (ops : Array Oper) : Nat → List Oper → List QW → (Env → Heap → Prop) → Env → Heap → Prop
 | _, [], _, Q, e, h => Q e h
 | k, o :: rest, pe, Q, e, h => (guardOf ops e o = true ∧ ∃ v h', Step P T e h o.op v h' ∧ h.length ≤ h'.length ∧ (h <+: h' ∨ Cv ops k = true) ∧ (∀ p ∈ pe, p.holds T h') ∧ (CL ops k = true → v.under h'.length = true) ∧
   wpD P T ops (k + 1) rest (if CL ops k = true then ⟨e, o.op, v⟩ :: pe else pe) Q (e.put o.dst v) h') ∨
  (guardOf ops e o = false ∧ wpD P T ops (k + 1) rest pe Q (e.put o.dst V.undef) h)
def Ex.then (next : Env → Heap → Prop) (Q : Exit → Env → Heap → Prop) : Exit → Env → Heap → Prop
 | .normal, e, h => next e h
 | x, e, h => Q x e h
def Ex.inBlock (id : Nat) (Q : Exit → Env → Heap → Prop) : Exit → Env → Heap → Prop
 | .exit id', e, h => if id' = id then Q .normal e h else Q (.exit id') e h
 | x, e, h => Q x e h
def rounds (f : (Exit → Env → Heap → Prop) → Env → Heap → Prop) (Q : Exit → Env → Heap → Prop) : Nat → Env → Heap → Prop
 | 0, _, _ => False
 | n + 1, e, h => f (Ex.then (rounds f Q n) Q) e h
def wp (P : Program) (T : Tab) : Code → (Exit → Env → Heap → Prop) → Env → Heap → Prop
 | .skip, Q, e, h => Q .normal e h
 | .label _, Q, e, h => Q .normal e h
 | .region _ ops false, Q, e, h => wpL P T ops ops.toList (Q .normal) e h
 | .region _ ops true, Q, e, h => Dk ops = true ∧ wpD P T ops 0 ops.toList [] (Q .normal) e h
 | .seq a b, Q, e, h => wp P T a (Ex.then (wp P T b Q) Q) e h
 | .cond c x y, Q, e, h => ∃ t, e.ev c = some (.bool t) ∧ ((t = true ∧ wp P T x Q e h) ∨ (t = false ∧ wp P T y Q e h))
 | .block id c, Q, e, h => wp P T c (Ex.inBlock id Q) e h
 | .loop c, Q, e, h => ∃ n, rounds (wp P T c) Q n e h
 | .exit id, Q, e, h => Q (.exit id) e h
 | .goto l, Q, e, h => Q (.goto l) e h
 | .ret, Q, e, h => Q .ret e h
 | _, _, _, _ => False
def ND (Q : Exit → Env → Heap → Prop) (μ : Mu) (h : Heap) (w : World) : Exit → Act → World → Prop := fun x a' w' => ∃ e' h' μ', Q x e' h' ∧ Sim μ' h' w' ∧ FR μ' e' a'.tmps ∧ Tr μ h w μ' h' w' ∧ a'.defers = []
theorem put_defers (a : Act) (d : Option Tmp) (v : Value) : (a.put d v).defers = a.defers := by cases d <;> rfl
theorem Rl (fit : Fits P T) (ops : Array Oper) {Q : Exit → Env → Heap → Prop} {μ0 : Mu} {h0 : Heap} {w0 : World} (hl0 : ∀ b x, μ0 b = some x → b < h0.length) : ∀ (l : List Oper) (e : Env) (h : Heap), wpL P T ops l (Q .normal) e h → ∀ (μ : Mu) (a : Act) (w : World), Sim μ h w → FR μ e a.tmps → Tr μ0 h0 w0 μ h w → a.defers = [] →
  wpList P ops (ND Q μ0 h0 w0) l a w
 | [], e, h, hw, μ, a, w, s, he, t, hd => ⟨e, h, μ, hw, s, he, t, hd⟩
 | o :: rest, e, h, hw, μ, a, w, s, he, t, hd => by
  have hg := Qs (ops := ops) he o
  unfold wpList
  simp only [wpL] at hw
  rcases hw with ⟨hgo, v, h', st, hrest⟩ | ⟨hgo, hrest⟩
  ·rw [hg, hgo]
   simp only [if_true]
   refine .inl (Ug fit s (he.looks o.op) st fun cv w' μ' hv s' t' => ?_)
   refine Rl fit ops hl0 rest _ _ hrest μ' _ w' s' ?_ (t.trans t' hl0) (by rw [put_defers]; exact hd)
   exact FR.put (μ := μ') (he.mono t'.ext) o.dst hv
  ·rw [hg, hgo]
   simp only [Bool.false_eq_true, if_false]
   exact Rl fit ops hl0 rest _ _ hrest μ _ w s (FR.put he o.dst VR.undef) t (by rw [put_defers]; exact hd)
theorem WR (ops : Array Oper) {Q : Env → Heap → Prop} : ∀ (l : List Oper) (k : Nat) (pe : List QW) (e : Env) (h : Heap), (∀ i, l[i]? = ops[k + i]?) → (∀ p ∈ pe, p.holds T h) → wpD P T ops k l pe Q e h →
  ∃ (E : Nat → Env) (Hs : Nat → Heap), E k = e ∧ Hs k = h ∧ Q (E (k + l.length)) (Hs (k + l.length)) ∧ (∀ (j : Nat) o, k ≤ j → ops[j]? = some o →
   (guardOf ops (E j) o = true ∧ ∃ v, Step P T (E j) (Hs j) o.op v (Hs (j + 1)) ∧ E (j + 1) = (E j).put o.dst v ∧ (Hs j).length ≤ (Hs (j + 1)).length ∧ (Hs j <+: Hs (j + 1) ∨ Cv ops j = true)) ∨
   (guardOf ops (E j) o = false ∧ E (j + 1) = (E j).put o.dst V.undef ∧ Hs (j + 1) = Hs j)) ∧
   (∀ p ∈ pe, ∀ m, k ≤ m → m ≤ k + l.length → p.holds T (Hs m)) ∧
   (∀ (j : Nat) o, k ≤ j → ops[j]? = some o → CL ops j = true → guardOf ops (E j) o = true → ∃ v, E (j + 1) = (E j).put o.dst v ∧ v.under (Hs (j + 1)).length = true ∧ ∀ m, j ≤ m → m ≤ k + l.length → memOp T (E j).ev (Hs m) o.op = some (v, Hs m))
 | [], k, pe, e, h, hl, hpe, hw => ⟨fun _ => e, fun _ => h, rfl, rfl, hw, fun j o hj ho => by
   exfalso
   have := hl (j - k)
   rw [show k + (j - k) = j by omega, ho] at this
   simp at this, fun p hp m _ _ => hpe p hp, fun j o hj ho => by
   exfalso
   have := hl (j - k)
   rw [show k + (j - k) = j by omega, ho] at this
   simp at this⟩
 | o :: rest, k, pe, e, h, hl, hpe, hw => by
  have hk : ops[k]? = some o := by simpa using (hl 0).symm
  have hl' : ∀ i, rest[i]? = ops[k + 1 + i]? := fun i => by have := hl (i + 1); simp only [List.getElem?_cons_succ] at this; rw [this]; congr 1; omega
  have glue : ∀ {e1 h1 pe1}, wpD P T ops (k + 1) rest pe1 Q e1 h1 → (∀ p ∈ pe1, p.holds T h1) → (∀ p ∈ pe, p ∈ pe1) →
    ((guardOf ops e o = true ∧ ∃ v, Step P T e h o.op v h1 ∧ e1 = e.put o.dst v ∧ h.length ≤ h1.length ∧ (h <+: h1 ∨ Cv ops k = true) ∧ (CL ops k = true → v.under h1.length = true ∧ memOp T e.ev h o.op = some (v, h) ∧ (⟨e, o.op, v⟩ : QW) ∈ pe1)) ∨ (guardOf ops e o = false ∧ e1 = e.put o.dst V.undef ∧ h1 = h)) →
    ∃ (E : Nat → Env) (Hs : Nat → Heap), E k = e ∧ Hs k = h ∧ Q (E (k + (o :: rest).length)) (Hs (k + (o :: rest).length)) ∧ (∀ (j : Nat) o, k ≤ j → ops[j]? = some o →
     (guardOf ops (E j) o = true ∧ ∃ v, Step P T (E j) (Hs j) o.op v (Hs (j + 1)) ∧ E (j + 1) = (E j).put o.dst v ∧ (Hs j).length ≤ (Hs (j + 1)).length ∧ (Hs j <+: Hs (j + 1) ∨ Cv ops j = true)) ∨
     (guardOf ops (E j) o = false ∧ E (j + 1) = (E j).put o.dst V.undef ∧ Hs (j + 1) = Hs j)) ∧
     (∀ p ∈ pe, ∀ m, k ≤ m → m ≤ k + (o :: rest).length → p.holds T (Hs m)) ∧
     (∀ (j : Nat) o', k ≤ j → ops[j]? = some o' → CL ops j = true → guardOf ops (E j) o' = true → ∃ v, E (j + 1) = (E j).put o'.dst v ∧ v.under (Hs (j + 1)).length = true ∧ ∀ m, j ≤ m → m ≤ k + (o :: rest).length → memOp T (E j).ev (Hs m) o'.op = some (v, Hs m)) := by
   intro e1 h1 pe1 hr hp1 hsub hs
   obtain ⟨E1, H1, a1, a2, a3, a4, a5, a6⟩ := WR ops rest (k + 1) pe1 e1 h1 hl' hp1 hr
   have hE : ∀ j, k + 1 ≤ j → (if j = k then e else E1 j) = E1 j := fun j hj => if_neg (by omega)
   have hH : ∀ j, k + 1 ≤ j → (if j = k then h else H1 j) = H1 j := fun j hj => if_neg (by omega)
   have hlen : (o :: rest).length = rest.length + 1 := rfl
   refine ⟨fun j => if j = k then e else E1 j, fun j => if j = k then h else H1 j, by simp, by simp, ?_, fun j o' hj ho' => ?_, fun p hp m h1' h2' => ?_, fun j o' hj ho' hlt hg => ?_⟩
   ·rw [hlen]
    simp only
    rw [hE _ (by omega), hH _ (by omega), show k + (rest.length + 1) = k + 1 + rest.length by omega]
    exact a3
   ·by_cases hjk : j = k
    ·subst hjk
     rw [hk] at ho'
     obtain rfl := Option.some.inj ho'
     simp only [if_true]
     rw [hE _ (by omega), hH _ (by omega), a1, a2]
     rcases hs with ⟨g, v, b1, b2, b3, b4, _⟩ | hs
     ·exact .inl ⟨g, v, b1, b2, b3, b4⟩
     ·exact .inr hs
    ·simp only [hjk, if_false]
     rw [hE _ (by omega), hH _ (by omega)]
     exact a4 j o' (by omega) ho'
   ·by_cases hmk : m = k
    ·subst hmk; simp only [if_true]; exact hpe p hp
    ·simp only [hmk, if_false]
     exact a5 p (hsub p hp) m (by omega) (by omega)
   ·by_cases hjk : j = k
    ·subst hjk
     rw [hk] at ho'
     obtain rfl := Option.some.inj ho'
     simp only [if_true] at hg ⊢
     rw [hE _ (by omega), hH _ (by omega), a1, a2]
     rcases hs with ⟨g, v, b1, b2, b3, b4, b5⟩ | ⟨g, _⟩
     ·obtain ⟨c1, c2, c3⟩ := b5 hlt
      refine ⟨v, b2, c1, fun m m1 m2 => ?_⟩
      by_cases hmj : m = j
      ·subst hmj; simp only [if_true]; exact c2
      ·simp only [hmj, if_false]
       exact a5 _ c3 m (by omega) (by omega)
     ·rw [g] at hg; cases hg
    ·simp only [hjk, if_false] at hg ⊢
     rw [hE _ (by omega), hH _ (by omega)]
     obtain ⟨v, c1, c2, c3⟩ := a6 j o' (by omega) ho' hlt hg
     refine ⟨v, c1, c2, fun m m1 m2 => ?_⟩
     rw [hH _ (by omega)]
     exact c3 m m1 (by omega)
  simp only [wpD] at hw
  rcases hw with ⟨hgo, v, h', st, hln, hq, hp, hu, hrest⟩ | ⟨hgo, hrest⟩
  ·have hst : CL ops k = true → memOp T e.ev h o.op = some (v, h) ∧ h' = h := fun hlt => by
    obtain ⟨t, x, eo⟩ := HK hlt hk
    rw [eo] at st ⊢
    exact st.MI
   refine glue hrest (fun p hp' => ?_) (fun p hp' => ?_) (.inl ⟨hgo, v, st, rfl, hln, hq, fun hlt => ⟨hu hlt, (hst hlt).1, by rw [if_pos hlt]; simp⟩⟩)
   ·split at hp'
    ·rename_i hlt
     rcases List.mem_cons.1 hp' with rfl | hp'
     ·obtain ⟨c1, c2⟩ := hst hlt
      show memOp T e.ev h' o.op = some (v, h')
      rw [c2]; exact c1
     ·exact hp p hp'
    ·exact hp p hp'
   ·split
    ·exact List.mem_cons_of_mem _ hp'
    ·exact hp'
  ·exact glue hrest hpe (fun p hp' => hp') (.inr ⟨hgo, rfl, rfl⟩)
theorem ND.trans {Q : Exit → Env → Heap → Prop} {μ μ1 : Mu} {h h1 : Heap} {w w1 : World} (t : Tr μ h w μ1 h1 w1) (hl : ∀ b x, μ b = some x → b < h.length) {x : Exit} {a' : Act} {w' : World} (p : ND Q μ1 h1 w1 x a' w') : ND Q μ h w x a' w' := by
 obtain ⟨e', h', μ', q, s, he, t', hd⟩ := p
 exact ⟨e', h', μ', q, s, he, t.trans t' hl, hd⟩
theorem VE (fit : Fits P T) (hm : P.follows .mixedOrders = true) (c : Code) : ∀ (Q : Exit → Env → Heap → Prop) (e : Env) (h : Heap), wp P T c Q e h → ∀ (μ : Mu) (a : Act) (w : World), Sim μ h w → FR μ e a.tmps → a.defers = [] → c.wp P (ND Q μ h w) a w := by
 induction c with
 | skip => intro Q e h hw μ a w s he hd; exact Go.wp_skip ⟨e, h, μ, hw, s, he, Tr.refl _ _ _, hd⟩
 | label l => intro Q e h hw μ a w s he hd; exact Go.wp_label ⟨e, h, μ, hw, s, he, Tr.refl _ _ _, hd⟩
 | exit id => intro Q e h hw μ a w s he hd; exact Go.wp_exit ⟨e, h, μ, hw, s, he, Tr.refl _ _ _, hd⟩
 | goto l => intro Q e h hw μ a w s he hd; exact Go.wp_goto ⟨e, h, μ, hw, s, he, Tr.refl _ _ _, hd⟩
 | ret => intro Q e h hw μ a w s he hd; exact Go.wp_ret ⟨e, h, μ, hw, s, he, Tr.refl _ _ _, hd⟩
 | region id ops draw =>
  intro Q e h hw μ a w s he hd
  cases draw with
  | false => exact wp_region_list (Rl fit ops (fun b x hx => (s.lt b x hx).1) _ e h hw μ a w s he (Tr.refl _ _ _) hd)
  | true =>
   obtain ⟨ok, hw⟩ := hw
   obtain ⟨E, Hs, e0, h0, hq, hs, _, hlate⟩ := WR ops ops.toList 0 [] e h (fun i => by simp) (fun p hp => by simp at hp) hw
   subst e0
   subst h0
   refine YO fit hm ⟨fun k o ho => hs k o (Nat.zero_le _) ho, fun k o ho hlt hg => ?_⟩ ok s he hd fun a' w' ⟨μ', s', he', t', hd'⟩ => ?_
   ·obtain ⟨v, c1, c2, c3⟩ := hlate k o (Nat.zero_le _) ho hlt hg
    exact ⟨v, c1, c2, fun m m1 m2 => c3 m m1 (by simpa using m2)⟩
   refine ⟨E ops.size, Hs ops.size, μ', ?_, s', he', t', hd'⟩
   simpa using hq
 | seq x y ihx ihy =>
  intro Q e h hw μ a w s he hd
  refine Go.wp_seq (Code.wp_mono ?_ (ihx _ e h hw μ a w s he hd))
  intro ex a' w' p
  obtain ⟨e', h', μ', q, s', he', t', hd'⟩ := p
  cases ex with
  | normal =>
   refine Code.wp_mono (fun ex2 a2 w2 p2 => ?_) (ihy Q e' h' q μ' a' w' s' he' hd')
   exact p2.trans t' (fun b x hx => (s.lt b x hx).1)
  | exit id => exact ⟨e', h', μ', q, s', he', t', hd'⟩
  | goto l => exact ⟨e', h', μ', q, s', he', t', hd'⟩
  | ret => exact ⟨e', h', μ', q, s', he', t', hd'⟩
  | panic ch => exact ⟨e', h', μ', q, s', he', t', hd'⟩
  | outgrown => exact ⟨e', h', μ', q, s', he', t', hd'⟩
 | cond c x y ihx ihy =>
  intro Q e h hw μ a w s he hd
  obtain ⟨t, hc, hb⟩ := hw
  have hv := he.looks (.move c) c (by simp [Op.operands]) _ hc
  rcases hb with ⟨rfl, hb⟩ | ⟨rfl, hb⟩
  ·exact Go.wp_cond_true hv.bool (ihx Q e h hb μ a w s he hd)
  ·exact Go.wp_cond_false hv.bool (ihy Q e h hb μ a w s he hd)
 | block id c ih =>
  intro Q e h hw μ a w s he hd
  refine Go.wp_block (Code.wp_mono ?_ (ih _ e h hw μ a w s he hd))
  intro ex a' w' p
  obtain ⟨e', h', μ', q, s', he', t', hd'⟩ := p
  cases ex with
  | exit id' =>
   simp only [Ex.inBlock] at q
   simp only [Exit.inBlock]
   split
   ·rename_i hid; rw [if_pos hid] at q; exact ⟨e', h', μ', q, s', he', t', hd'⟩
   ·rename_i hid; rw [if_neg hid] at q; exact ⟨e', h', μ', q, s', he', t', hd'⟩
  | normal => exact ⟨e', h', μ', q, s', he', t', hd'⟩
  | goto l => exact ⟨e', h', μ', q, s', he', t', hd'⟩
  | ret => exact ⟨e', h', μ', q, s', he', t', hd'⟩
  | panic ch => exact ⟨e', h', μ', q, s', he', t', hd'⟩
  | outgrown => exact ⟨e', h', μ', q, s', he', t', hd'⟩
 | loop c ih =>
  intro Q e h hw μ a w s he hd
  obtain ⟨n, hn⟩ := hw
  refine wp_loop_rounds n ?_
  induction n generalizing e h μ a w with
  | zero => exact hn.elim
  | succ n ihn =>
   rw [rounds_succ]
   refine Code.wp_mono ?_ (ih _ e h hn μ a w s he hd)
   intro ex a' w' p
   obtain ⟨e', h', μ', q, s', he', t', hd'⟩ := p
   cases ex with
   | normal =>
    have := ihn e' h' μ' a' w' s' he' hd' q
    -- the rounds that are left end as the whole does
    have mono : ∀ (m : Nat) (a2 : Act) (w2 : World), Code.rounds P c (ND Q μ' h' w') m a2 w2 → Code.rounds P c (ND Q μ h w) m a2 w2 := by
     intro m
     induction m with
     | zero => intro a2 w2 hh; exact hh
     | succ m ihm =>
      intro a2 w2 hh
      rw [rounds_succ] at hh ⊢
      refine Code.wp_mono ?_ hh
      intro ex3 a3 w3 hh3
      cases ex3 with
      | normal => exact ihm _ _ hh3
      | exit id => exact hh3.trans t' (fun b x hx => (s.lt b x hx).1)
      | goto l => exact hh3.trans t' (fun b x hx => (s.lt b x hx).1)
      | ret => exact hh3.trans t' (fun b x hx => (s.lt b x hx).1)
      | panic ch => exact hh3.trans t' (fun b x hx => (s.lt b x hx).1)
      | outgrown => exact hh3.trans t' (fun b x hx => (s.lt b x hx).1)
    exact mono n a' w' this
   | exit id => exact ⟨e', h', μ', q, s', he', t', hd'⟩
   | goto l => exact ⟨e', h', μ', q, s', he', t', hd'⟩
   | ret => exact ⟨e', h', μ', q, s', he', t', hd'⟩
   | panic ch => exact ⟨e', h', μ', q, s', he', t', hd'⟩
   | outgrown => exact ⟨e', h', μ', q, s', he', t', hd'⟩
 | rangeFunc f ps x y ihx ihy => intro Q e h hw; exact hw.elim
 | scope c ih => intro Q e h hw; exact hw.elim
 | refuse why => intro Q e h hw; exact hw.elim
def resV (T : Tab) (e : Env) (h : Heap) : ResultVar → Option V
 | .tmp t => e[t]?
 | .cell a t => match e[a]?, T t with
  | some (.ptr b off), some i => if i.k.agg then (h.loadN b off i.size).map .agg else
    match h.loadN b off 1 with
    | some [v] => some v
    | _ => none
  | _, _ => none
def resVs (T : Tab) (e : Env) (h : Heap) : List ResultVar → Option (List V)
 | [] => some []
 | r :: rs => match resV T e h r, resVs T e h rs with
  | some v, some vs => some (v :: vs)
  | _, _ => none
def resOf (T : Tab) (fn : Func) (e : Env) (h : Heap) : Option V :=
 match resVs T e h fn.results.toList with
 | some [v] => some v
 | some vs => some (.tup vs)
 | none => none
theorem Us (fit : Fits P T) {μ : Mu} {e : Env} {h : Heap} {w : World} {tmps : Array Value} (s : Sim μ h w) (he : FR μ e tmps) {r : ResultVar} {v : V} (hr : resV T e h r = some v) :
  ∃ cv, (match r with | .tmp t => pure (tmps.getD t undef) | .cell a t => do loadVar t (← asAddr (tmps.getD a undef)) : Sem Value).run P w = .ok cv w ∧ VR μ v cv := by
 cases r with
 | tmp t =>
  simp only [resV] at hr
  obtain ⟨cv, h1, h2⟩ := VRs.get he hr
  refine ⟨cv, ?_, h2⟩
  simp only [Array.getElem?_toList] at h1
  simp only [Array.getD_eq_getD_getElem?, h1, Option.getD_some]
  rfl
 | cell a t =>
  simp only [resV] at hr
  split at hr
  ·rename_i b off i hb hT
   obtain ⟨cv, h1, h2⟩ := VRs.get he hb
   simp only [Array.getElem?_toList] at h1
   simp only [VR] at h2
   obtain ⟨x, hx, rfl⟩ := h2
   have hl : (if i.k.agg then (h.loadN b off i.size).map fun cs => (V.agg cs, h) else match h.loadN b off 1 with | some [v] => some (v, h) | _ => none) = some (v, h) := by
    split at hr
    ·rename_i ha
     simp only [Option.map_eq_some_iff] at hr
     obtain ⟨cs, hcs, rfl⟩ := hr
     simp [ha, hcs]
    ·rename_i ha
     split at hr
     ·rename_i u hu
      simp only [Option.some.injEq] at hr
      subst hr
      simp [ha, hu]
     ·cases hr
   obtain ⟨cv, k1, k2⟩ := load_sound fit s hT hx hl
   refine ⟨cv, ?_, k2⟩
   simp only [Array.getD_eq_getD_getElem?, h1, Option.getD_some, asAddr, Sem.run_bind, Sem.run_pure, Result.andThen_ok]
   exact k1
  ·cases hr
theorem My (fit : Fits P T) {μ : Mu} {e : Env} {h : Heap} {w : World} {tmps : Array Value} (s : Sim μ h w) (he : FR μ e tmps) : ∀ {rs : List ResultVar} {vs : List V}, resVs T e h rs = some vs →
  ∃ cvs : List Value, (rs.mapM fun | .tmp t => pure (tmps.getD t undef) | .cell a t => do loadVar t (← asAddr (tmps.getD a undef)) : Sem (List Value)).run P w = .ok cvs w ∧ VRs μ vs cvs
 | [], _, hr => by
  simp only [resVs, Option.some.injEq] at hr
  subst hr
  exact ⟨[], by simp, by simp [VRs]⟩
 | r :: rs, _, hr => by
  simp only [resVs] at hr
  split at hr
  ·rename_i v vs hv hvs
   simp only [Option.some.injEq] at hr
   subst hr
   obtain ⟨cv, k1, k2⟩ := Us fit s he hv
   obtain ⟨cvs, g1, g2⟩ := My fit s he hvs
   refine ⟨cv :: cvs, ?_, by simp only [VRs]; exact ⟨cv, cvs, rfl, k2, g2⟩⟩
   rw [List.mapM_cons]
   simp only [Sem.run_bind]
   have k1' := k1
   rw [k1']
   simp only [Result.andThen_ok]
   rw [g1]
   simp
  ·cases hr
theorem HO (fit : Fits P T) {μ : Mu} {e : Env} {h : Heap} {w : World} {tmps : Array Value} (s : Sim μ h w) (he : FR μ e tmps) {fn : Func} {v : V} (hr : resOf T fn e h = some v) : ∃ cv, (results fn tmps).run P w = .ok cv w ∧ VR μ v cv := by
 unfold resOf at hr
 have key : ∀ {vs : List V}, resVs T e h fn.results.toList = some vs → ∃ cvs : List Value, VRs μ vs cvs ∧ (results fn tmps).run P w = .ok (if h : cvs.toArray.size = 1 then cvs.toArray[0] else .tuple cvs.toArray) w := by
  intro vs hvs
  obtain ⟨cvs, g1, g2⟩ := My fit s he hvs
  refine ⟨cvs, g2, ?_⟩
  unfold results
  rw [Array.mapM_eq_mapM_toList]
  simp only [Sem.run_bind, Sem.run_map, Sem.run_pure]
  exact congrArg (fun r : Result (List Value) => (r.andThen fun a w' => Result.ok a.toArray w').andThen fun a w' => Result.ok (if h : a.size = 1 then a[0] else Value.tuple a) w') g1
 split at hr
 ·rename_i u hvs
  simp only [Option.some.injEq] at hr
  subst hr
  obtain ⟨cvs, g1, g2⟩ := key hvs
  obtain ⟨c, rfl, hc⟩ := g1.one
  exact ⟨c, by simpa using g2, hc⟩
 ·rename_i vs hne hvs
  simp only [Option.some.injEq] at hr
  subst hr
  obtain ⟨cvs, g1, g2⟩ := key hvs
  have hlen := g1.length
  have h1 : cvs.toArray.size ≠ 1 := by
   intro h1
   simp only [List.size_toArray] at h1
   rw [h1] at hlen
   match vs, hlen with
   | [u], _ => exact hne u rfl
  rw [dif_neg h1] at g2
  refine ⟨_, g2, ?_⟩
  simp only [VR]
  exact ⟨cvs.toArray, rfl, by simpa using g1⟩
 ·cases hr
def Ends (T : Tab) (fn : Func) (v : V) (H' : Heap) : Exit → Env → Heap → Prop
 | .normal, e, h | .ret, e, h => resOf T fn e h = some v ∧ h = H'
 | _, _, _ => False
theorem VRs.Zv {μ : Mu} (n : Nat) : VRs μ (List.replicate n V.undef) (List.replicate n Go.undef) := by
 induction n with
 | zero => simp [VRs]
 | succ n ih => simp only [List.replicate_succ, VRs]; exact ⟨_, _, rfl, VR.undef, ih⟩
theorem Tx (fit : Fits P T) (hm : P.follows .mixedOrders = true) {f : Nat} {fn : Func} {c : Code} {args : List V} {H H' : Heap} {v : V} (hf : P.funcs[f]? = some fn) (hb : fn.body = some c) (hn : (fn.name == "runtime.NumGoroutine") = false)
  (h : wp P T c (Ends T fn v H') (args ++ List.replicate (fn.ntmps - args.length) V.undef) H) : Call P f args H v H' := by
 refine ⟨⟨fn, hf, by rw [hb]; rfl, hn⟩, fun μ w cargs s hargs => ?_⟩
 have hlen : cargs.size = args.length := by simpa using hargs.length
 have he : FR μ (args ++ List.replicate (fn.ntmps - args.length) V.undef) (cargs ++ Array.replicate (fn.ntmps - cargs.size) Go.undef) := by
  unfold FR
  rw [Array.toList_append, Array.toList_replicate, hlen]
  exact hargs.append (VRs.Zv _)
 refine calls_of_wp hf hb (Code.wp_mono ?_ (VE fit hm c _ _ H h μ _ w s he rfl))
 intro ex a' w' p
 obtain ⟨e', h', μ', q, s', he', t', hd'⟩ := p
 cases ex <;> simp only [Ends] at q
 case normal =>
  obtain ⟨q1, rfl⟩ := q
  obtain ⟨cv, k1, k2⟩ := HO fit s' he' q1
  exact ⟨hd', cv, k1, cv, μ', rfl, k2, s', t'⟩
 case ret =>
  obtain ⟨q1, rfl⟩ := q
  obtain ⟨cv, k1, k2⟩ := HO fit s' he' q1
  exact ⟨hd', cv, k1, cv, μ', rfl, k2, s', t'⟩
mutual
def V.plain : V → Bool
 | .int .. | .bool _ | .str _ | .Co | .AN | .nilm => true
 | .agg cs => V.plains cs
 | .tup vs => V.plains vs
 | _ => false
def V.plains : List V → Bool
 | [] => true
 | v :: vs => V.plain v && V.plains vs
end
mutual
theorem VR.plain {μ μ' : Mu} : ∀ {v : V} {w : Value}, v.plain = true → VR μ v w → VR μ' v w
 | .int .., _, _, h => by simpa only [VR] using h
 | .bool .., _, _, h => by simpa only [VR] using h
 | .str .., _, _, h => by simpa only [VR] using h
 | .Co, _, _, h => by simpa only [VR] using h
 | .AN, _, _, h => by simpa only [VR] using h
 | .nilm, _, _, h => by simpa only [VR] using h
 | .agg cs, _, hp, h => by
  simp only [V.plain] at hp
  simp only [VR] at h ⊢
  obtain ⟨cw, rfl, h1, hc⟩ := h
  exact ⟨cw, rfl, h1, VRs.plain hp hc⟩
 | .tup vs, _, hp, h => by
  simp only [V.plain] at hp
  simp only [VR] at h ⊢
  obtain ⟨cw, rfl, hc⟩ := h
  exact ⟨cw, rfl, VRs.plain hp hc⟩
 | .ptr .., _, hp, _ => by simp [V.plain] at hp
 | .slc .., _, hp, _ => by simp [V.plain] at hp
 | .map .., _, hp, _ => by simp [V.plain] at hp
 | .fn .., _, hp, _ => by simp [V.plain] at hp
theorem VRs.plain {μ μ' : Mu} : ∀ {vs : List V} {ws : List Value}, V.plains vs = true → VRs μ vs ws → VRs μ' vs ws
 | [], _, _, h => by simpa only [VRs] using h
 | v :: vs, _, hp, h => by
  simp only [V.plains, Bool.and_eq_true] at hp
  simp only [VRs] at h ⊢
  obtain ⟨w, ws', rfl, h1, h2⟩ := h
  exact ⟨w, ws', rfl, VR.plain hp.1 h1, VRs.plain hp.2 h2⟩
end
theorem Call.forget {f : Nat} {args : List V} {H H1 : Heap} {v : V} (h : Call P f args H v H1) (hp : H <+: H1) (hv : v.plain = true) : Call P f args H v H := by
 refine ⟨h.1, fun μ w cargs s hargs => (h.2 μ w cargs s hargs).mono ?_⟩
 rintro e w' ⟨cv, μ', rfl, k1, k2, k3⟩
 have low : ∀ b x, b < H.length → μ' b = some x → μ b = some x := fun b x hb hx => by
  cases hm : μ b with
  | some y => have := k3.ext b y hm; rw [hx] at this; exact this.symm
  | none => have := (k3.fresh b x hx hm).1; omega
 refine ⟨cv, μ'.cut H.length, rfl, VR.plain hv k1, k2.WI hp (fun b x cs wr hx hb hrow i u hiu c hc => ?_), ⟨fun b x hx => ?_, fun b x hx hn => ?_, fun b k hk => ⟨k, hk, Blk.Le.refl k⟩, k3.size, k3.frame, k3.os, k3.tape, k3.output⟩⟩
 ·rw [Cp hp hb] at hrow
  obtain ⟨_, c0, _, hc0⟩ := s.row b x cs wr (low b x hb hx) hrow i u hiu
  refine (VR.back k3.ext hc0 hc).mono fun b' x' hx' => ?_
  rw [Mu.Ge (s.lt b' x' hx').1]; exact k3.ext _ _ hx'
 ·rw [Mu.Ge (s.lt b x hx).1]; exact k3.ext _ _ hx
 ·exfalso
  obtain ⟨c1, c2⟩ := Mu.Cm hx
  have := (k3.fresh b x c2 hn).1
  omega
end Go.Proofs.YtncjbjlmgnjhiaaGreat.VM
namespace Go.Proofs.YtncjbjlmgnjhiaaGreat.VM
open Go
set_option linter.unusedVariables false
set_option linter.unusedSimpArgs false
variable {P : Program} {T : Tab}
abbrev Rho := Nat → V
def Rho.ev (ρ : Rho) : Operand → Option V
 | .tmp t => some (ρ t)
 | .const v => V.of v
 | .func f => some (.fn f [])
 | .global _ => none
def Rho.put (ρ : Rho) (d : Option Nat) (v : V) : Rho :=
 match d with
 | some d => fun t => if t = d then v else ρ t
 | none => ρ
def stepF (T : Tab) (ρ : Operand → Option V) (h : Heap) (op : Op) : Option (V × Heap) :=
 match pureOp T ρ op with
 | some v => some (v, h)
 | none => memOp T ρ h op
def guardR (ops : Array Oper) (ρ : Rho) (o : Oper) : Bool :=
 match o.guard with
 | none => true
 | some (j, want) => match (ops[j]?).bind (·.dst) with
  | some d => match ρ d with
   | .bool b => b == want
   | _ => false
  | none => false
def wqO (P : Program) (T : Tab) (z : Heap → Prop) (op : Op) (ρ : Rho) (h : Heap) (K : V → Heap → Prop) : Prop :=
 match op with
 | .call { callee := .value f, args := xs, .. } => match ρ.ev f, evs ρ.ev xs.toList with
  | some (.fn g caps), some vs => ∃ v h', Call P g (vs ++ caps) h v h' ∧ z h' ∧ K v h'
  | _, _ => False
 | op => match stepF T ρ.ev h op with
  | some (v, h') => K v h'
  | none => False
def wqL (P : Program) (T : Tab) (ops : Array Oper) : List Oper → (Rho → Heap → Prop) → Rho → Heap → Prop
 | [], Q, ρ, h => Q ρ h
 | o :: rest, Q, ρ, h =>
  if guardR ops ρ o = true then wqO P T (fun _ => True) o.op ρ h fun v h' => wqL P T ops rest Q (ρ.put o.dst v) h'
  else wqL P T ops rest Q (ρ.put o.dst V.undef) h
def wqD (P : Program) (T : Tab) (ops : Array Oper) : Nat → List Oper → (Rho → Heap → Prop) → Rho → Heap → Prop
 | _, [], Q, ρ, h => Q ρ h
 | k, o :: rest, Q, ρ, h =>
  if guardR ops ρ o = true then wqO P T (fun h' => h <+: h' ∨ (h.length ≤ h'.length ∧ Cv ops k = true)) o.op ρ h fun v h' => wqD P T ops (k + 1) rest Q (ρ.put o.dst v) h'
  else wqD P T ops (k + 1) rest Q (ρ.put o.dst V.undef) h
structure DZ where
 ρ : Rho
 op : Op
 v : V
def DZ.holds (T : Tab) (h : Heap) (p : DZ) : Prop := memOp T p.ρ.ev h p.op = some (p.v, h)
def wqE (P : Program) (T : Tab) (ops : Array Oper) : Nat → List Oper → List DZ → (Rho → Heap → Prop) → Rho → Heap → Prop
 | _, [], _, Q, ρ, h => Q ρ h
 | k, o :: rest, pe, Q, ρ, h =>
  if guardR ops ρ o = true then wqO P T (fun h' => h <+: h' ∨ (h.length ≤ h'.length ∧ Cv ops k = true)) o.op ρ h fun v h' => (∀ p ∈ pe, p.holds T h') ∧ (CL ops k = true → v.under h'.length = true) ∧ wqE P T ops (k + 1) rest (if CL ops k = true then ⟨ρ, o.op, v⟩ :: pe else pe) Q (ρ.put o.dst v) h'
  else wqE P T ops (k + 1) rest pe Q (ρ.put o.dst V.undef) h
def RJ (ops : Array Oper) : Bool := (List.range ops.size).all fun k => !CL ops k
theorem Xq {z : Heap → Prop} {op : Op} {ρ : Rho} {h : Heap} {K K' : V → Heap → Prop} (hk : ∀ v h', K v h' → K' v h') (hw : wqO P T z op ρ h K) : wqO P T z op ρ h K' := by
 unfold wqO at hw ⊢
 split at hw
 ·split at hw
  ·obtain ⟨v, h', a, b, c⟩ := hw; exact ⟨v, h', a, b, hk _ _ c⟩
  ·exact hw.elim
 ·split at hw
  ·exact hk _ _ hw
  ·exact hw.elim
theorem Px {ops : Array Oper} (h : RJ ops = true) (k : Nat) : CL ops k = false := by
 by_cases hk : k < ops.size
 ·simp only [RJ, List.all_eq_true, List.mem_range] at h
  simpa using h k hk
 ·unfold CL
  simp [Array.getElem?_eq_none (Nat.le_of_not_lt hk)]
theorem VG {ops : Array Oper} (hn : RJ ops = true) {Q : Rho → Heap → Prop} : ∀ (l : List Oper) (k : Nat) (ρ : Rho) (h : Heap), wqD P T ops k l Q ρ h → wqE P T ops k l [] Q ρ h
 | [], _, _, _, hw => hw
 | o :: rest, k, ρ, h, hw => by
  simp only [wqD] at hw
  simp only [wqE]
  split
  ·rename_i hg
   rw [if_pos hg] at hw
   refine Xq (fun v h' hk => ?_) hw
   refine ⟨fun p hp => by simp at hp, ?_, ?_⟩
   ·intro hl; rw [Px hn k] at hl; cases hl
   ·rw [if_neg (by rw [Px hn k]; simp)]
    exact VG hn rest (k + 1) _ _ hk
  ·rename_i hg
   rw [if_neg hg] at hw
   exact VG hn rest (k + 1) _ _ hw
def Th (next : Rho → Heap → Prop) (Q : Exit → Rho → Heap → Prop) : Exit → Rho → Heap → Prop
 | .normal, ρ, h => next ρ h
 | x, ρ, h => Q x ρ h
def Bk (id : Nat) (Q : Exit → Rho → Heap → Prop) : Exit → Rho → Heap → Prop
 | .exit id', ρ, h => if id' = id then Q .normal ρ h else Q (.exit id') ρ h
 | x, ρ, h => Q x ρ h
def LZ (f : (Exit → Rho → Heap → Prop) → Rho → Heap → Prop) (Q : Exit → Rho → Heap → Prop) : Nat → Rho → Heap → Prop
 | 0, _, _ => False
 | n + 1, ρ, h => f (Th (LZ f Q n) Q) ρ h
def wq (P : Program) (T : Tab) : Code → (Exit → Rho → Heap → Prop) → Rho → Heap → Prop
 | .skip, Q, ρ, h => Q .normal ρ h
 | .label _, Q, ρ, h => Q .normal ρ h
 | .region _ ops false, Q, ρ, h => wqL P T ops ops.toList (Q .normal) ρ h
 | .region _ ops true, Q, ρ, h => wqE P T ops 0 ops.toList [] (Q .normal) ρ h
 | .seq a b, Q, ρ, h => wq P T a (Th (wq P T b Q) Q) ρ h
 | .cond c x y, Q, ρ, h => match ρ.ev c with
  | some (.bool t) => if t = true then wq P T x Q ρ h else wq P T y Q ρ h
  | _ => False
 | .block id c, Q, ρ, h => wq P T c (Bk id Q) ρ h
 | .loop c, Q, ρ, h => ∃ n, LZ (wq P T c) Q n ρ h
 | .exit id, Q, ρ, h => Q (.exit id) ρ h
 | .goto l, Q, ρ, h => Q (.goto l) ρ h
 | .ret, Q, ρ, h => Q .ret ρ h
 | _, _, _, _ => False
def LV : Op → Bool
 | .store .. | .mapUpdate .. => false
 | .call { callee := .builtin b, .. } => match b with
  | .len | .cap | .min | .max => true
  | _ => false
 | _ => true
def inB (n : Nat) : Operand → Bool
 | .tmp t => decide (t < n)
 | _ => true
def KZ (n : Nat) (ops : Array Oper) (o : Oper) : Bool :=
 o.op.operands.all (inB n) && (match o.dst with | some d => decide (d < n) | none => true) &&
 (match o.guard with | none => true | some (j, _) => match (ops[j]?).bind (·.dst) with | some d => decide (d < n) | none => true)
def Ih : Op → Bool
 | .call { callee := .value _, .. } => true
 | _ => false
def codeOk (n : Nat) : Code → Bool
 | .region _ ops d => ops.toList.all (KZ n ops) && (!d || (Dk ops && ops.toList.zipIdx.all fun (o, k) => Ih o.op || LV o.op || Cv ops k))
 | .seq a b => codeOk n a && codeOk n b
 | .cond c a b => inB n c && codeOk n a && codeOk n b
 | .block _ c => codeOk n c
 | .loop c => codeOk n c
 | _ => true
structure EL (n : Nat) (ρ : Rho) (e : Env) : Prop where
 len : e.length = n
 tmp : ∀ t, t < n → e[t]? = some (ρ t)
theorem EL.ev {n : Nat} {ρ : Rho} {e : Env} (h : EL n ρ e) {x : Operand} (hx : inB n x = true) : e.ev x = ρ.ev x := by
 cases x with
 | tmp t => simp only [inB, decide_eq_true_eq] at hx; exact h.tmp t hx
 | _ => rfl
theorem EL.put {n : Nat} {ρ : Rho} {e : Env} (h : EL n ρ e) {d : Option Nat} (hd : ∀ k, d = some k → k < n) (v : V) : EL n (ρ.put d v) (e.put d v) := by
 cases d with
 | none => exact h
 | some k =>
  have hk := hd k rfl
  refine ⟨by simp [Env.put, h.len], fun t ht => ?_⟩
  simp only [Env.put, Rho.put, List.getElem?_set]
  by_cases htk : t = k
  ·subst htk; simp [h.len, ht]
  ·have htk' : ¬ k = t := fun e => htk e.symm
   simp only [htk, htk', if_false]
   exact h.tmp t ht
theorem EL.guard {n : Nat} {ρ : Rho} {e : Env} (h : EL n ρ e) {ops : Array Oper} {o : Oper} (ho : KZ n ops o = true) : guardOf ops e o = guardR ops ρ o := by
 simp only [KZ, Bool.and_eq_true] at ho
 have hg := ho.2
 unfold guardOf guardR
 cases hgo : o.guard with
 | none => rfl
 | some jw =>
  obtain ⟨j, want⟩ := jw
  rw [hgo] at hg
  simp only at hg ⊢
  cases hd : (ops[j]?).bind (·.dst) with
  | none => rfl
  | some d =>
   rw [hd] at hg
   simp only [decide_eq_true_eq] at hg
   simp only [Option.bind_some, h.tmp d hg]
   cases ρ d <;> rfl
theorem VA {n : Nat} {ρ : Rho} {e : Env} (ha : EL n ρ e) {op : Op} (ho : op.operands.all (inB n) = true) {h h' : Heap} {v : V} (hs : stepF T ρ.ev h op = some (v, h')) : Step P T e h op v h' := by
 have hx : ∀ x ∈ op.operands, e.ev x = ρ.ev x := fun x hx => ha.ev (by have := Array.all_eq_true_iff_forall_mem.1 ho x hx; exact this)
 unfold stepF at hs
 split at hs
 ·rename_i u hu
  simp only [Option.some.injEq, Prod.mk.injEq] at hs
  obtain ⟨rfl, rfl⟩ := hs
  exact .inl ⟨by rw [pure_congr hx]; exact hu, rfl⟩
 ·exact .inr (.inl (by rw [mem_congr hx]; exact hs))
theorem Kj {h h' : Heap} {b off : Nat} {vs : List V} (hs : h.storeN b off vs = some h') : h'.length = h.length := by
 unfold Heap.storeN at hs
 split at hs
 ·split at hs
  ·simp only [Option.some.injEq] at hs; subst hs; simp
  ·cases hs
 ·cases hs
theorem Rs {e : TI} {s v : V} {n : Nat} {news : List V} {h h' : Heap} (hm : appendV e s n news h = some (v, h')) : h.length ≤ h'.length := by
 unfold appendV at hm
 split at hm
 ·cases hm
 split at hm
 ·split at hm
  ·simp only [Option.some.injEq, Prod.mk.injEq] at hm; rw [← hm.2]; exact Nat.le_refl _
  ·split at hm
   ·simp only [Option.some.injEq, Prod.mk.injEq] at hm; rw [← hm.2]; simp
   ·cases hm
 ·split at hm
  ·cases hm
  split at hm
  ·split at hm
   ·simp only [Option.some.injEq, Prod.mk.injEq] at hm; rw [← hm.2]; exact Nat.le_refl _
   ·simp only [Option.map_eq_some_iff, Prod.mk.injEq] at hm
    obtain ⟨h1, hs, _, rfl⟩ := hm
    exact Nat.le_of_eq (Kj hs).symm
  ·split at hm
   ·split at hm
    ·split at hm
     ·simp only [Option.some.injEq, Prod.mk.injEq] at hm; rw [← hm.2]; simp
     ·split at hm
      ·simp only [Option.some.injEq, Prod.mk.injEq] at hm; rw [← hm.2]; simp
      ·cases hm
    ·cases hm
   ·cases hm
 ·cases hm
theorem mem_grow {ρ : Operand → Option V} {h h' : Heap} {op : Op} {v : V} (hm : memOp T ρ h op = some (v, h')) : h.length ≤ h'.length := by
 unfold memOp at hm
 repeat' (split at hm)
 all_goals first
  | (cases hm; done)
  | (simp only [Option.some.injEq, Prod.mk.injEq] at hm; obtain ⟨_, rfl⟩ := hm; simp; done)
  | (simp only [Option.map_eq_some_iff, Prod.mk.injEq] at hm; obtain ⟨x, hs, _, rfl⟩ := hm; first | exact Nat.le_refl _ | exact Nat.le_of_eq (Kj hs).symm)
  | exact Rs hm
  | skip
 all_goals
  unfold copyV at hm
  repeat' (split at hm)
  all_goals first
   | (cases hm; done)
   | (dsimp only at hm; split at hm
      ·simp only [Option.some.injEq, Prod.mk.injEq] at hm; obtain ⟨_, rfl⟩ := hm; exact Nat.le_refl _
      ·split at hm
       ·split at hm
        ·rename_i hs; simp only [Option.some.injEq, Prod.mk.injEq] at hm; obtain ⟨_, rfl⟩ := hm; exact Nat.le_of_eq (Kj hs).symm
        ·cases hm
       ·cases hm)
theorem Wz {ρ : Operand → Option V} {h h' : Heap} {op : Op} {v : V} (hq : LV op = true) (hm : memOp T ρ h op = some (v, h')) : h <+: h' := by
 unfold memOp at hm
 repeat' (split at hm)
 all_goals first
  | (cases hm; done)
  | (cases hq; done)
  | (simp only [Option.some.injEq, Prod.mk.injEq] at hm; obtain ⟨_, rfl⟩ := hm; first | exact List.prefix_refl _ | exact List.prefix_append ..)
  | (simp only [Option.map_eq_some_iff, Prod.mk.injEq] at hm; obtain ⟨x, hs, _, rfl⟩ := hm; exact List.prefix_refl _)
theorem Uz {ρ : Operand → Option V} {h h' : Heap} {op : Op} {v : V} (hs : stepF T ρ h op = some (v, h')) : h.length ≤ h'.length := by
 unfold stepF at hs
 split at hs
 ·simp only [Option.some.injEq, Prod.mk.injEq] at hs; rw [← hs.2]; exact Nat.le_refl _
 ·exact mem_grow hs
theorem Td {ρ : Operand → Option V} {h h' : Heap} {op : Op} {v : V} (hq : LV op = true) (hs : stepF T ρ h op = some (v, h')) : h <+: h' := by
 unfold stepF at hs
 split at hs
 ·simp only [Option.some.injEq, Prod.mk.injEq] at hs; rw [← hs.2]; exact List.prefix_refl _
 ·exact Wz hq hs
theorem Tp {n : Nat} {ρ : Rho} {e : Env} (ha : EL n ρ e) {op : Op} (ho : op.operands.all (inB n) = true) {z : Heap → Prop} {h : Heap} {K : V → Heap → Prop} (hw : wqO P T z op ρ h K) :
  ∃ v h', Step P T e h op v h' ∧ K v h' ∧ ((Ih op = true ∧ z h') ∨ stepF T ρ.ev h op = some (v, h')) := by
 have hx : ∀ x ∈ op.operands, e.ev x = ρ.ev x := fun x hx => ha.ev (by have := Array.all_eq_true_iff_forall_mem.1 ho x hx; exact this)
 unfold wqO at hw
 split at hw
 ·rename_i f xs _
  split at hw
  ·rename_i g caps vs hf hvs
   obtain ⟨v, h', hc, hz, hk⟩ := hw
   refine ⟨v, h', .inr (.inr ⟨f, xs, _, g, caps, vs, rfl, ?_, ?_, hc⟩), hk, .inl ⟨rfl, hz⟩⟩
   ·rw [hx f (by simp [Op.operands, Call.operands])]; exact hf
   ·rw [GQ xs.toList fun x hx' => hx x (by simp [Op.operands, Call.operands]; exact .inr (by simpa using hx'))]; exact hvs
  ·exact hw.elim
 ·split at hw
  ·rename_i v h' hs
   exact ⟨v, h', VA ha ho hs, hw, .inr hs⟩
  ·exact hw.elim
theorem VJ {n : Nat} (ops : Array Oper) {Q : Rho → Heap → Prop} {Q' : Env → Heap → Prop} (hQ : ∀ ρ e h, EL n ρ e → Q ρ h → Q' e h) : ∀ (l : List Oper), l.all (KZ n ops) = true → ∀ (ρ : Rho) (e : Env) (h : Heap), EL n ρ e → wqL P T ops l Q ρ h → wpL P T ops l Q' e h
 | [], _, ρ, e, h, ha, hw => hQ ρ e h ha hw
 | o :: rest, hok, ρ, e, h, ha, hw => by
  simp only [List.all_cons, Bool.and_eq_true] at hok
  have hg := ha.guard hok.1
  have ho := hok.1
  simp only [KZ, Bool.and_eq_true] at ho
  have hd : ∀ k, o.dst = some k → k < n := fun k hk => by have := ho.1.2; rw [hk] at this; simpa using this
  simp only [wqL] at hw
  simp only [wpL]
  split at hw
  ·rename_i hgr
   obtain ⟨v, h', st, hk, _⟩ := Tp ha ho.1.1 hw
   exact .inl ⟨hg.trans hgr, v, h', st, VJ ops hQ rest hok.2 _ _ _ (ha.put hd v) hk⟩
  ·rename_i hgr
   exact .inr ⟨by rw [hg]; simpa using hgr, VJ ops hQ rest hok.2 _ _ _ (ha.put hd V.undef) hw⟩
def Rr (n : Nat) : List DZ → List QW → Prop
 | [], [] => True
 | p :: ps, q :: qs => (EL n p.ρ q.e ∧ p.op = q.op ∧ p.v = q.v ∧ p.op.operands.all (inB n) = true) ∧ Rr n ps qs
 | _, _ => False
theorem Rr.holds {n : Nat} {h : Heap} : ∀ {ps : List DZ} {qs : List QW}, Rr n ps qs → (∀ p ∈ ps, p.holds T h) → ∀ q ∈ qs, q.holds T h
 | [], [], _, _, q, hq => by simp at hq
 | p :: ps, q :: qs, ⟨⟨h1, h2, h3, h4⟩, hr⟩, hp, q', hq => by
  rcases List.mem_cons.1 hq with rfl | hq
  ·have := hp p (by simp)
   unfold DZ.holds at this
   unfold QW.holds
   rw [← h2, ← h3, mem_congr fun x hx => h1.ev (by have := Array.all_eq_true_iff_forall_mem.1 h4 x hx; exact this)]
   exact this
  ·exact Rr.holds hr (fun p hp' => hp p (by simp [hp'])) q' hq
 | [], _ :: _, h, _, _, _ => h.elim
 | _ :: _, [], h, _, _, _ => h.elim
theorem VH {n : Nat} (ops : Array Oper) {Q : Rho → Heap → Prop} {Q' : Env → Heap → Prop} (hQ : ∀ ρ e h, EL n ρ e → Q ρ h → Q' e h) : ∀ (l : List Oper) (k : Nat) (ps : List DZ) (qs : List QW), Rr n ps qs → l.all (KZ n ops) = true → (∀ (j : Nat) o, l[j]? = some o → (Ih o.op || LV o.op || Cv ops (k + j)) = true) → ∀ (ρ : Rho) (e : Env) (h : Heap), EL n ρ e → wqE P T ops k l ps Q ρ h → wpD P T ops k l qs Q' e h
 | [], _, _, _, _, _, _, ρ, e, h, ha, hw => hQ ρ e h ha hw
 | o :: rest, k, ps, qs, hpq, hok, hst, ρ, e, h, ha, hw => by
  simp only [List.all_cons, Bool.and_eq_true] at hok
  have hg := ha.guard hok.1
  have ho := hok.1
  simp only [KZ, Bool.and_eq_true] at ho
  have hd : ∀ k, o.dst = some k → k < n := fun k hk => by have := ho.1.2; rw [hk] at this; simpa using this
  have hst' : ∀ (j : Nat) o, rest[j]? = some o → (Ih o.op || LV o.op || Cv ops (k + 1 + j)) = true := fun j o hj => by have := hst (j + 1) o (by simpa using hj); rwa [show k + (j + 1) = k + 1 + j by omega] at this
  simp only [wqE] at hw
  simp only [wpD]
  split at hw
  ·rename_i hgr
   obtain ⟨v, h', st, ⟨hp, hu, hk⟩, hz⟩ := Tp ha ho.1.1 hw
   have h0 := hst 0 o rfl
   rw [Nat.add_zero] at h0
   refine .inl ⟨hg.trans hgr, v, h', st, ?_, ?_, hpq.holds hp, hu, VH ops hQ rest (k + 1) _ _ ?_ hok.2 hst' _ _ _ (ha.put hd v) hk⟩
   ·rcases hz with ⟨_, hz | hz⟩ | hz
    ·exact hz.length_le
    ·exact hz.1
    ·exact Uz hz
   ·rcases hz with ⟨_, hz | hz⟩ | hz
    ·exact .inl hz
    ·exact .inr hz.2
    ·simp only [Bool.or_eq_true] at h0
     rcases h0 with (h0 | h0) | h0
     ·exfalso
      unfold Ih at h0
      split at h0
      ·rename_i ho'; rw [ho'] at hz; simp [stepF, pureOp, memOp] at hz
      ·cases h0
     ·exact .inl (Td h0 hz)
     ·exact .inr h0
   ·split
    ·exact ⟨⟨ha, rfl, rfl, ho.1.1⟩, hpq⟩
    ·exact hpq
  ·rename_i hgr
   exact .inr ⟨by rw [hg]; simpa using hgr, VH ops hQ rest (k + 1) ps qs hpq hok.2 hst' _ _ _ (ha.put hd V.undef) hw⟩
theorem WT {n : Nat} (c : Code) : codeOk n c = true → ∀ (Q : Exit → Rho → Heap → Prop) (Q' : Exit → Env → Heap → Prop), (∀ x ρ e h, EL n ρ e → Q x ρ h → Q' x e h) → ∀ (ρ : Rho) (e : Env) (h : Heap), EL n ρ e → wq P T c Q ρ h → wp P T c Q' e h := by
 induction c with
 | skip => intro _ Q Q' hQ ρ e h ha hw; exact hQ _ _ _ _ ha hw
 | label l => intro _ Q Q' hQ ρ e h ha hw; exact hQ _ _ _ _ ha hw
 | exit id => intro _ Q Q' hQ ρ e h ha hw; exact hQ _ _ _ _ ha hw
 | goto l => intro _ Q Q' hQ ρ e h ha hw; exact hQ _ _ _ _ ha hw
 | ret => intro _ Q Q' hQ ρ e h ha hw; exact hQ _ _ _ _ ha hw
 | region id ops d =>
  intro hok Q Q' hQ ρ e h ha hw
  simp only [codeOk, Bool.and_eq_true] at hok
  cases d with
  | false => exact VJ ops (Q := Q .normal) (fun ρ e h ha hq => hQ .normal ρ e h ha hq) ops.toList hok.1 ρ e h ha hw
  | true =>
   have h2 := hok.2
   simp only [Bool.not_true, Bool.false_or, Bool.and_eq_true, List.all_eq_true] at h2
   refine ⟨h2.1, VH ops (Q := Q .normal) (fun ρ e h ha hq => hQ .normal ρ e h ha hq) ops.toList 0 [] [] trivial hok.1 (fun j o hj => ?_) ρ e h ha hw⟩
   have := h2.2 (o, j) (by rw [List.mem_iff_getElem?]; exact ⟨j, by simp [List.getElem?_zipIdx, hj]⟩)
   simpa using this
 | seq x y ihx ihy =>
  intro hok Q Q' hQ ρ e h ha hw
  simp only [codeOk, Bool.and_eq_true] at hok
  refine ihx hok.1 _ _ (fun ex ρ e h ha hq => ?_) ρ e h ha hw
  cases ex with
  | normal => exact ihy hok.2 Q Q' hQ ρ e h ha hq
  | exit id => exact hQ _ _ _ _ ha hq
  | goto l => exact hQ _ _ _ _ ha hq
  | ret => exact hQ _ _ _ _ ha hq
  | panic ch => exact hQ _ _ _ _ ha hq
  | outgrown => exact hQ _ _ _ _ ha hq
 | cond c x y ihx ihy =>
  intro hok Q Q' hQ ρ e h ha hw
  simp only [codeOk, Bool.and_eq_true] at hok
  simp only [wq] at hw
  split at hw
  ·rename_i t ht
   rw [← ha.ev hok.1.1] at ht
   refine ⟨t, ht, ?_⟩
   split at hw
   ·rename_i htt; exact .inl ⟨htt, ihx hok.1.2 Q Q' hQ ρ e h ha hw⟩
   ·rename_i htt; exact .inr ⟨by simpa using htt, ihy hok.2 Q Q' hQ ρ e h ha hw⟩
  ·exact hw.elim
 | block id c ih =>
  intro hok Q Q' hQ ρ e h ha hw
  refine ih hok _ _ (fun ex ρ e h ha hq => ?_) ρ e h ha hw
  cases ex with
  | exit id' =>
   simp only [Bk] at hq
   simp only [Ex.inBlock]
   split
   ·rename_i he; rw [if_pos he] at hq; exact hQ _ _ _ _ ha hq
   ·rename_i he; rw [if_neg he] at hq; exact hQ _ _ _ _ ha hq
  | normal => exact hQ _ _ _ _ ha hq
  | goto l => exact hQ _ _ _ _ ha hq
  | ret => exact hQ _ _ _ _ ha hq
  | panic ch => exact hQ _ _ _ _ ha hq
  | outgrown => exact hQ _ _ _ _ ha hq
 | loop c ih =>
  intro hok Q Q' hQ ρ e h ha hw
  obtain ⟨m, hw⟩ := hw
  refine ⟨m, ?_⟩
  induction m generalizing ρ e h with
  | zero => exact hw.elim
  | succ m ihm =>
   refine ih hok _ _ (fun ex ρ e h ha hq => ?_) ρ e h ha hw
   cases ex with
   | normal => exact ihm ρ e h ha hq
   | exit id => exact hQ _ _ _ _ ha hq
   | goto l => exact hQ _ _ _ _ ha hq
   | ret => exact hQ _ _ _ _ ha hq
   | panic ch => exact hQ _ _ _ _ ha hq
   | outgrown => exact hQ _ _ _ _ ha hq
 | rangeFunc f ps x y ihx ihy => intro _ Q Q' hQ ρ e h ha hw; exact hw.elim
 | scope c ih => intro _ Q Q' hQ ρ e h ha hw; exact hw.elim
 | refuse why => intro _ Q Q' hQ ρ e h ha hw; exact hw.elim
def resR (T : Tab) (ρ : Rho) (h : Heap) : ResultVar → Option V
 | .tmp t => some (ρ t)
 | .cell a t => match ρ a, T t with
  | .ptr b off, some i => if i.k.agg then (h.loadN b off i.size).map .agg else
    match h.loadN b off 1 with
    | some [v] => some v
    | _ => none
  | _, _ => none
def resRs (T : Tab) (ρ : Rho) (h : Heap) : List ResultVar → Option (List V)
 | [] => some []
 | r :: rs => match resR T ρ h r, resRs T ρ h rs with
  | some v, some vs => some (v :: vs)
  | _, _ => none
def resRf (T : Tab) (rs : List ResultVar) (ρ : Rho) (h : Heap) : Option V :=
 match resRs T ρ h rs with
 | some [v] => some v
 | some vs => some (.tup vs)
 | none => none
def WB (n : Nat) : ResultVar → Bool
 | .tmp t => decide (t < n)
 | .cell a _ => decide (a < n)
theorem RU {n : Nat} {ρ : Rho} {e : Env} (ha : EL n ρ e) {h : Heap} : ∀ {rs : List ResultVar}, rs.all (WB n) = true → resVs T e h rs = resRs T ρ h rs
 | [], _ => rfl
 | r :: rs, hr => by
  simp only [List.all_cons, Bool.and_eq_true] at hr
  have h1 : resV T e h r = resR T ρ h r := by
   cases r with
   | tmp t => simp only [WB, decide_eq_true_eq] at hr; simp only [resV, resR]; exact ha.tmp t hr.1
   | cell a t => simp only [WB, decide_eq_true_eq] at hr; simp only [resV, resR, ha.tmp a hr.1]; cases ρ a <;> cases T t <;> rfl
  simp only [resVs, resRs, h1, RU ha hr.2] <;> rfl
def EndR (T : Tab) (rs : List ResultVar) (R : V → Heap → Prop) : Exit → Rho → Heap → Prop
 | .normal, ρ, h | .ret, ρ, h => ∃ v, resRf T rs ρ h = some v ∧ R v h
 | _, _, _ => False
def Ig (fn : Func) (c : Code) (k : Nat) : Bool := codeOk fn.ntmps c && fn.results.toList.all (WB fn.ntmps) && decide (k ≤ fn.ntmps)
def MT (args : List V) : Rho := fun t => args.getD t V.undef
end Go.Proofs.YtncjbjlmgnjhiaaGreat.VM
namespace Go.Proofs.YtncjbjlmgnjhiaaGreat.VM
open Go
set_option linter.unusedVariables false
set_option linter.unusedSimpArgs false
variable {P : Program} {T : Tab}
theorem Lp {z : Heap → Prop} {op : Op} {ρ : Rho} {h : Heap} {K K' : V → Heap → Prop} (hk : ∀ v h', K v h' → K' v h') (hw : wqO P T z op ρ h K) : wqO P T z op ρ h K' := by
 unfold wqO at hw ⊢
 split at hw
 ·split at hw
  ·obtain ⟨v, h', a, b, c⟩ := hw; exact ⟨v, h', a, b, hk _ _ c⟩
  ·exact hw.elim
 ·split at hw
  ·exact hk _ _ hw
  ·exact hw.elim
theorem aA {z : Heap → Prop} {op : Op} {ρ : Rho} {h : Heap} {K : V → Heap → Prop} (hw : wqO P T z op ρ h K) : ∃ v h', K v h' ∧ wqO P T z op ρ h fun v1 h1 => v1 = v ∧ h1 = h' := by
 unfold wqO at hw ⊢
 split at hw
 ·split at hw
  ·obtain ⟨v, h', a, b, c⟩ := hw
   exact ⟨v, h', c, v, h', a, b, rfl, rfl⟩
  ·exact hw.elim
 ·split at hw
  ·rename_i v h' hs
   exact ⟨v, h', hw, by simp⟩
  ·exact hw.elim
theorem VI (ops : Array Oper) : ∀ (l : List Oper) {Q : Rho → Heap → Prop} {ρ : Rho} {h : Heap}, wqL P T ops l Q ρ h → ∃ ρ' h', Q ρ' h' ∧ wqL P T ops l (fun ρ1 h1 => ρ1 = ρ' ∧ h1 = h') ρ h
 | [], Q, ρ, h, hw => ⟨ρ, h, hw, rfl, rfl⟩
 | o :: rest, Q, ρ, h, hw => by
  simp only [wqL] at hw ⊢
  split at hw
  ·rename_i hg
   obtain ⟨v, h1, hk, ho⟩ := aA hw
   obtain ⟨ρ', h', q, r⟩ := VI ops rest hk
   refine ⟨ρ', h', q, ?_⟩
   rw [if_pos hg]
   exact Lp (fun v1 h2 ⟨e1, e2⟩ => by subst e1; subst e2; exact r) ho
  ·rename_i hg
   obtain ⟨ρ', h', q, r⟩ := VI ops rest hw
   exact ⟨ρ', h', q, by rw [if_neg hg]; exact r⟩
theorem VF (ops : Array Oper) : ∀ (l : List Oper) (k : Nat) (ps : List DZ) {Q : Rho → Heap → Prop} {ρ : Rho} {h : Heap}, wqE P T ops k l ps Q ρ h → ∃ ρ' h', Q ρ' h' ∧ wqE P T ops k l ps (fun ρ1 h1 => ρ1 = ρ' ∧ h1 = h') ρ h
 | [], _, _, Q, ρ, h, hw => ⟨ρ, h, hw, rfl, rfl⟩
 | o :: rest, k, ps, Q, ρ, h, hw => by
  simp only [wqE] at hw ⊢
  split at hw
  ·rename_i hg
   obtain ⟨v, h1, ⟨c1, c2, hk⟩, ho⟩ := aA hw
   obtain ⟨ρ', h', q, r⟩ := VF ops rest (k + 1) _ hk
   refine ⟨ρ', h', q, ?_⟩
   rw [if_pos hg]
   exact Lp (fun v1 h2 ⟨e1, e2⟩ => by subst e1; subst e2; exact ⟨c1, c2, r⟩) ho
  ·rename_i hg
   obtain ⟨ρ', h', q, r⟩ := VF ops rest (k + 1) ps hw
   exact ⟨ρ', h', q, by rw [if_neg hg]; exact r⟩
theorem Lo (ops : Array Oper) : ∀ (l : List Oper) {Q Q' : Rho → Heap → Prop} {ρ : Rho} {h : Heap}, (∀ ρ h, Q ρ h → Q' ρ h) → wqL P T ops l Q ρ h → wqL P T ops l Q' ρ h
 | [], Q, Q', ρ, h, hk, hw => hk _ _ hw
 | o :: rest, Q, Q', ρ, h, hk, hw => by
  simp only [wqL] at hw ⊢
  split at hw
  ·rename_i hg
   rw [if_pos hg]
   exact Lp (fun v h' => Lo ops rest hk) hw
  ·rename_i hg
   rw [if_neg hg]
   exact Lo ops rest hk hw
theorem Ln (ops : Array Oper) : ∀ (l : List Oper) (k : Nat) (ps : List DZ) {Q Q' : Rho → Heap → Prop} {ρ : Rho} {h : Heap}, (∀ ρ h, Q ρ h → Q' ρ h) → wqE P T ops k l ps Q ρ h → wqE P T ops k l ps Q' ρ h
 | [], _, _, Q, Q', ρ, h, hk, hw => hk _ _ hw
 | o :: rest, k, ps, Q, Q', ρ, h, hk, hw => by
  simp only [wqE] at hw ⊢
  split at hw
  ·rename_i hg
   rw [if_pos hg]
   exact Lp (fun v h' ⟨c1, c2, c3⟩ => ⟨c1, c2, Ln ops rest (k + 1) _ hk c3⟩) hw
  ·rename_i hg
   rw [if_neg hg]
   exact Ln ops rest (k + 1) ps hk hw
theorem QY {n n' : Rho → Heap → Prop} {Q Q' : Exit → Rho → Heap → Prop} (h1 : ∀ ρ h, n ρ h → n' ρ h) (h2 : ∀ x ρ h, Q x ρ h → Q' x ρ h) : ∀ x ρ h, Th n Q x ρ h → Th n' Q' x ρ h := fun x ρ h hw => by
 cases x <;> first | exact h1 _ _ hw | exact h2 _ _ _ hw
theorem aD {id : Nat} {Q Q' : Exit → Rho → Heap → Prop} (h2 : ∀ x ρ h, Q x ρ h → Q' x ρ h) : ∀ x ρ h, Bk id Q x ρ h → Bk id Q' x ρ h := fun x ρ h hw => by
 cases x with
 | exit id' =>
  simp only [Bk] at hw ⊢
  split
  ·rename_i e; rw [if_pos e] at hw; exact h2 _ _ _ hw
  ·rename_i e; rw [if_neg e] at hw; exact h2 _ _ _ hw
 | _ => exact h2 _ _ _ hw
theorem Bt (c : Code) : ∀ {Q Q' : Exit → Rho → Heap → Prop} {ρ : Rho} {h : Heap}, (∀ x ρ h, Q x ρ h → Q' x ρ h) → wq P T c Q ρ h → wq P T c Q' ρ h := by
 induction c with
 | region id ops d => intro Q Q' ρ h hk hw; cases d <;> first | exact Lo ops _ (hk .normal) hw | exact Ln ops _ 0 [] (hk .normal) hw
 | seq a b iha ihb => intro Q Q' ρ h hk hw; exact iha (QY (fun ρ h => ihb hk) hk) hw
 | cond c a b iha ihb =>
  intro Q Q' ρ h hk hw
  simp only [wq] at hw ⊢
  split at hw
  ·rename_i t _
   cases t <;> simp only [Bool.false_eq_true, if_true, if_false] at hw ⊢
   ·exact ihb hk hw
   ·exact iha hk hw
  ·exact hw.elim
 | block id c ih => intro Q Q' ρ h hk hw; exact ih (aD hk) hw
 | loop c ih =>
  intro Q Q' ρ h hk hw
  obtain ⟨n, hw⟩ := hw
  refine ⟨n, ?_⟩
  induction n generalizing ρ h with
  | zero => exact hw.elim
  | succ n ihn => exact ih (QY (fun ρ h => ihn) hk) hw
 | rangeFunc f ps x y ihx ihy => intro Q Q' ρ h hk hw; exact hw.elim
 | scope c ih => intro Q Q' ρ h hk hw; exact hw.elim
 | refuse why => intro Q Q' ρ h hk hw; exact hw.elim
 | _ => intro Q Q' ρ h hk hw; exact hk _ _ _ hw
theorem WS (c : Code) : ∀ {Q : Exit → Rho → Heap → Prop} {ρ : Rho} {h : Heap}, wq P T c Q ρ h → ∃ x ρ' h', Q x ρ' h' ∧ wq P T c (fun x1 ρ1 h1 => x1 = x ∧ ρ1 = ρ' ∧ h1 = h') ρ h := by
 induction c with
 | region id ops d =>
  intro Q ρ h hw
  cases d with
  | false =>
   obtain ⟨ρ', h', q, r⟩ := VI ops ops.toList (Q := Q .normal) hw
   exact ⟨_, ρ', h', q, Lo ops _ (fun _ _ e => ⟨rfl, e⟩) r⟩
  | true =>
   obtain ⟨ρ', h', q, r⟩ := VF ops ops.toList 0 [] (Q := Q .normal) hw
   exact ⟨_, ρ', h', q, Ln ops _ 0 [] (fun _ _ e => ⟨rfl, e⟩) r⟩
 | seq a b iha ihb =>
  intro Q ρ h hw
  obtain ⟨x, ρ1, h1, q, r⟩ := iha hw
  cases x with
  | normal =>
   obtain ⟨x2, ρ2, h2, q2, r2⟩ := ihb q
   refine ⟨x2, ρ2, h2, q2, Bt a (fun x ρ h e => ?_) r⟩
   obtain ⟨rfl, rfl, rfl⟩ := e
   exact r2
  | exit id => exact ⟨_, ρ1, h1, q, Bt a (fun x ρ h e => by obtain ⟨rfl, rfl, rfl⟩ := e; exact ⟨rfl, rfl, rfl⟩) r⟩
  | goto l => exact ⟨_, ρ1, h1, q, Bt a (fun x ρ h e => by obtain ⟨rfl, rfl, rfl⟩ := e; exact ⟨rfl, rfl, rfl⟩) r⟩
  | ret => exact ⟨_, ρ1, h1, q, Bt a (fun x ρ h e => by obtain ⟨rfl, rfl, rfl⟩ := e; exact ⟨rfl, rfl, rfl⟩) r⟩
  | panic ch => exact ⟨_, ρ1, h1, q, Bt a (fun x ρ h e => by obtain ⟨rfl, rfl, rfl⟩ := e; exact ⟨rfl, rfl, rfl⟩) r⟩
  | outgrown => exact ⟨_, ρ1, h1, q, Bt a (fun x ρ h e => by obtain ⟨rfl, rfl, rfl⟩ := e; exact ⟨rfl, rfl, rfl⟩) r⟩
 | cond c a b iha ihb =>
  intro Q ρ h hw
  simp only [wq] at hw
  split at hw
  ·rename_i t ht
   cases t <;> simp only [Bool.false_eq_true, if_true, if_false] at hw
   ·obtain ⟨x, ρ1, h1, q, r⟩ := ihb hw
    exact ⟨x, ρ1, h1, q, by simp only [wq, ht]; simpa using r⟩
   ·obtain ⟨x, ρ1, h1, q, r⟩ := iha hw
    exact ⟨x, ρ1, h1, q, by simp only [wq, ht]; simpa using r⟩
  ·exact hw.elim
 | block id c ih =>
  intro Q ρ h hw
  obtain ⟨x, ρ1, h1, q, r⟩ := ih hw
  cases x with
  | exit id' =>
   by_cases e : id' = id
   ·refine ⟨.normal, ρ1, h1, by simpa [Bk, e] using q, Bt c (fun x ρ h e' => ?_) r⟩
    obtain ⟨rfl, rfl, rfl⟩ := e'
    simp [Bk, e]
   ·refine ⟨.exit id', ρ1, h1, by simpa [Bk, e] using q, Bt c (fun x ρ h e' => ?_) r⟩
    obtain ⟨rfl, rfl, rfl⟩ := e'
    simp [Bk, e]
  | normal => exact ⟨_, ρ1, h1, q, Bt c (fun x ρ h e => by obtain ⟨rfl, rfl, rfl⟩ := e; exact ⟨rfl, rfl, rfl⟩) r⟩
  | goto l => exact ⟨_, ρ1, h1, q, Bt c (fun x ρ h e => by obtain ⟨rfl, rfl, rfl⟩ := e; exact ⟨rfl, rfl, rfl⟩) r⟩
  | ret => exact ⟨_, ρ1, h1, q, Bt c (fun x ρ h e => by obtain ⟨rfl, rfl, rfl⟩ := e; exact ⟨rfl, rfl, rfl⟩) r⟩
  | panic ch => exact ⟨_, ρ1, h1, q, Bt c (fun x ρ h e => by obtain ⟨rfl, rfl, rfl⟩ := e; exact ⟨rfl, rfl, rfl⟩) r⟩
  | outgrown => exact ⟨_, ρ1, h1, q, Bt c (fun x ρ h e => by obtain ⟨rfl, rfl, rfl⟩ := e; exact ⟨rfl, rfl, rfl⟩) r⟩
 | loop c ih =>
  intro Q ρ h hw
  obtain ⟨n, hw⟩ := hw
  have : ∃ x ρ' h', Q x ρ' h' ∧ LZ (wq P T c) (fun x1 ρ1 h1 => x1 = x ∧ ρ1 = ρ' ∧ h1 = h') n ρ h := by
   induction n generalizing ρ h with
   | zero => exact hw.elim
   | succ n ihn =>
    obtain ⟨x, ρ1, h1, q, r⟩ := ih hw
    cases x with
    | normal =>
     obtain ⟨x2, ρ2, h2, q2, r2⟩ := ihn q
     refine ⟨x2, ρ2, h2, q2, Bt c (fun x ρ h e => ?_) r⟩
     obtain ⟨rfl, rfl, rfl⟩ := e
     exact r2
    | exit id => exact ⟨_, ρ1, h1, q, Bt c (fun x ρ h e => by obtain ⟨rfl, rfl, rfl⟩ := e; exact ⟨rfl, rfl, rfl⟩) r⟩
    | goto l => exact ⟨_, ρ1, h1, q, Bt c (fun x ρ h e => by obtain ⟨rfl, rfl, rfl⟩ := e; exact ⟨rfl, rfl, rfl⟩) r⟩
    | ret => exact ⟨_, ρ1, h1, q, Bt c (fun x ρ h e => by obtain ⟨rfl, rfl, rfl⟩ := e; exact ⟨rfl, rfl, rfl⟩) r⟩
    | panic ch => exact ⟨_, ρ1, h1, q, Bt c (fun x ρ h e => by obtain ⟨rfl, rfl, rfl⟩ := e; exact ⟨rfl, rfl, rfl⟩) r⟩
    | outgrown => exact ⟨_, ρ1, h1, q, Bt c (fun x ρ h e => by obtain ⟨rfl, rfl, rfl⟩ := e; exact ⟨rfl, rfl, rfl⟩) r⟩
  obtain ⟨x, ρ', h', q, r⟩ := this
  exact ⟨x, ρ', h', q, n, r⟩
 | rangeFunc f ps x y ihx ihy => intro Q ρ h hw; exact hw.elim
 | scope c ih => intro Q ρ h hw; exact hw.elim
 | refuse why => intro Q ρ h hw; exact hw.elim
 | _ => intro Q ρ h hw; exact ⟨_, ρ, h, hw, rfl, rfl, rfl⟩
theorem CY (fit : Fits P T) (hm : P.follows .mixedOrders = true) {f : Nat} {fn : Func} {c : Code} {args : List V} {H : Heap} {R : V → Heap → Prop} {rs : List ResultVar} (hf : P.funcs[f]? = some fn) (hb : fn.body = some c) (hn : (fn.name == "runtime.NumGoroutine") = false)
  (hrs : fn.results = ⟨rs⟩) (hok : Ig fn c args.length = true) (h : wq P T c (EndR T rs R) (MT args) H) : ∃ v H', R v H' ∧ Call P f args H v H' := by
 obtain rfl : rs = fn.results.toList := by rw [hrs]
 simp only [Ig, Bool.and_eq_true, decide_eq_true_eq] at hok
 obtain ⟨⟨hc, hr⟩, hk⟩ := hok
 obtain ⟨x, ρ', h', q, r⟩ := WS c h
 have ha : EL fn.ntmps (MT args) (args ++ List.replicate (fn.ntmps - args.length) V.undef) := by
  refine ⟨by simp; omega, fun t ht => ?_⟩
  unfold MT
  by_cases hta : t < args.length
  ·rw [List.getElem?_append_left hta]; simp [List.getD_eq_getElem?_getD, hta]
  ·rw [List.getElem?_append_right (by omega)]
   simp [List.getD_eq_getElem?_getD, List.getElem?_replicate]
   rw [List.getElem?_eq_none (by omega)]
   exact ⟨by omega, rfl⟩
 have q' : (x = .normal ∨ x = .ret) ∧ ∃ v, resRf T fn.results.toList ρ' h' = some v ∧ R v h' := by
  cases x <;> simp only [EndR] at q
  ·exact ⟨.inl rfl, q⟩
  ·exact ⟨.inr rfl, q⟩
 obtain ⟨hx, v, hv, hR⟩ := q'
 refine ⟨v, h', hR, Tx fit hm hf hb hn ?_⟩
 refine WT c hc _ _ (fun x1 ρ1 e1 h1 ha1 hq => ?_) _ _ H ha r
 obtain ⟨rfl, rfl, rfl⟩ := hq
 have : resOf T fn e1 h1 = some v := by
  unfold resOf
  rw [RU ha1 hr]
  exact hv
 rcases hx with rfl | rfl <;> exact ⟨this, rfl⟩
theorem AJ (fit : Fits P T) (hm : P.follows .mixedOrders = true) {f : Nat} {fn : Func} {c : Code} {args : List V} {H : Heap} {v : V} {rs : List ResultVar} (hf : P.funcs[f]? = some fn) (hb : fn.body = some c) (hn : (fn.name == "runtime.NumGoroutine") = false)
  (hrs : fn.results = ⟨rs⟩) (hok : Ig fn c args.length = true) (hv : v.plain = true) (h : wq P T c (EndR T rs fun v' h' => v' = v ∧ H <+: h') (MT args) H) : Call P f args H v H := by
 obtain ⟨v', H', ⟨rfl, hp⟩, hc⟩ := CY fit hm hf hb hn hrs hok h
 exact hc.forget hp hv
theorem AT {c : Code} {Q : Exit → Rho → Heap → Prop} (I : Nat → Rho → Heap → Prop) {m : Nat} {ρ : Rho} {h : Heap} (h0 : I m ρ h)
  (step : ∀ m ρ h, I m ρ h → wq P T c (Th (fun ρ' h' => ∃ m', m' < m ∧ I m' ρ' h') Q) ρ h) : wq P T (.loop c) Q ρ h := by
 refine ⟨m + 1, ?_⟩
 induction m using Nat.strongRecOn generalizing ρ h with
 | _ m ih =>
  refine Bt c ?_ (step m ρ h h0)
  intro x ρ' h' hq
  cases x with
  | normal =>
   obtain ⟨m', hm', hI⟩ := hq
   have := ih m' hm' hI
   have up : ∀ (a b : Nat), a ≤ b → ∀ ρ h, LZ (wq P T c) Q a ρ h → LZ (wq P T c) Q b ρ h := by
    intro a
    induction a with
    | zero => intro b _ ρ h hr; exact hr.elim
    | succ a iha =>
     intro b hab ρ h hr
     obtain ⟨b, rfl⟩ : ∃ d, b = d + 1 := ⟨b - 1, by omega⟩
     exact Bt c (QY (fun ρ h => iha b (by omega) ρ h) (fun _ _ _ q => q)) hr
   exact up (m' + 1) m (by omega) _ _ this
  | exit id => exact hq
  | goto l => exact hq
  | ret => exact hq
  | panic ch => exact hq
  | outgrown => exact hq
end Go.Proofs.YtncjbjlmgnjhiaaGreat.VM
namespace Go.Proofs.YtncjbjlmgnjhiaaGreat.VM
open Go
set_option linter.unusedVariables false
set_option linter.unusedSimpArgs false
variable {P : Program} {T : Tab}
theorem AD (ρ : Rho) (d : Nat) (v : V) (t : Nat) : (ρ.put (some d) v) t = if t = d then v else ρ t := rfl
theorem AB (ρ : Rho) (v : V) : ρ.put none v = ρ := rfl
theorem Ic (ρ : Rho) (t : Nat) : ρ.ev (.tmp t) = some (ρ t) := rfl
theorem FA (ρ : Rho) (v : Value) : ρ.ev (.const v) = V.of v := rfl
theorem GG (ρ : Rho) (f : Nat) : ρ.ev (.func f) = some (.fn f []) := rfl
theorem BT (args : List V) (t : Nat) : MT args t = args.getD t V.undef := rfl
section flow
variable {Q : Exit → Rho → Heap → Prop} {ρ : Rho} {h : Heap}
theorem AO {a b : Code} (hw : wq P T a (Th (wq P T b Q) Q) ρ h) : wq P T (.seq a b) Q ρ h := hw
theorem Ah (hw : Q .normal ρ h) : wq P T .skip Q ρ h := hw
theorem As (hw : Q .ret ρ h) : wq P T .ret Q ρ h := hw
theorem Ag {id : Nat} (hw : Q (.exit id) ρ h) : wq P T (.exit id) Q ρ h := hw
theorem AW {id : Nat} {c : Code} (hw : wq P T c (Bk id Q) ρ h) : wq P T (.block id c) Q ρ h := hw
theorem AK {id : Nat} {ops : Array Oper} (hw : wqL P T ops ops.toList (Q .normal) ρ h) : wq P T (.region id ops false) Q ρ h := hw
theorem Ae {id : Nat} {ops : Array Oper} (hn : RJ ops = true) (hw : wqD P T ops 0 ops.toList (Q .normal) ρ h) : wq P T (.region id ops true) Q ρ h := VG (Q := Q .normal) hn _ _ _ _ hw
theorem NZ {id : Nat} {ops : Array Oper} (hw : wqE P T ops 0 ops.toList [] (Q .normal) ρ h) : wq P T (.region id ops true) Q ρ h := hw
theorem Rm {c : Operand} {a b : Code} {t : Bool} (hc : ρ.ev c = some (.bool t)) (h1 : t = true → wq P T a Q ρ h) (h2 : t = false → wq P T b Q ρ h) : wq P T (.cond c a b) Q ρ h := by
 simp only [wq, hc]
 cases t
 ·exact h2 rfl
 ·exact h1 rfl
theorem AR {n : Rho → Heap → Prop} (hw : n ρ h) : Th n Q .normal ρ h := hw
theorem Ar {n : Rho → Heap → Prop} (hw : Q .ret ρ h) : Th n Q .ret ρ h := hw
theorem Ad {n : Rho → Heap → Prop} {id : Nat} (hw : Q (.exit id) ρ h) : Th n Q (.exit id) ρ h := hw
theorem AS {id : Nat} (hw : Q .normal ρ h) : Bk id Q .normal ρ h := hw
theorem Aq {id : Nat} (hw : Q .ret ρ h) : Bk id Q .ret ρ h := hw
theorem Ac {id : Nat} (hw : Q .normal ρ h) : Bk id Q (.exit id) ρ h := by simp only [Bk, if_true]; exact hw
theorem AV {id id' : Nat} (hne : (id' == id) = false) (hw : Q (.exit id') ρ h) : Bk id Q (.exit id') ρ h := by simp only [Bk]; rw [if_neg (by simpa using hne)]; exact hw
theorem AL {rs : List ResultVar} {R : V → Heap → Prop} {v : V} (hv : resRf T rs ρ h = some v) (hr : R v h) : EndR T rs R .ret ρ h := ⟨v, hv, hr⟩
theorem Bu {rs : List ResultVar} {R : V → Heap → Prop} {v : V} (hv : resRf T rs ρ h = some v) (hr : R v h) : EndR T rs R .normal ρ h := ⟨v, hv, hr⟩
end flow
section ops
variable {ops : Array Oper} {rest : List Oper} {Q : Rho → Heap → Prop} {ρ : Rho} {h h' : Heap} {o : Oper} {v : V}
theorem BN (hw : Q ρ h) : wqL P T ops [] Q ρ h := hw
theorem BM {k : Nat} (hw : Q ρ h) : wqD P T ops k [] Q ρ h := hw
theorem Ey {k : Nat} {ps : List DZ} (hw : Q ρ h) : wqE P T ops k [] ps Q ρ h := hw
def CP (T : Tab) (ρ : Rho) (h : Heap) (op : Op) (v : V) (h' : Heap) : Prop := Ih op = false ∧ stepF T ρ.ev h op = some (v, h')
theorem PJ {z : Heap → Prop} {op : Op} {K : V → Heap → Prop} (hs : CP T ρ h op v h') (hk : K v h') : wqO P T z op ρ h K := by
 unfold wqO
 split
 ·exact absurd hs.1 (by simp [Ih])
 ·rw [hs.2]; exact hk
theorem ET {d : Option Nat} {op : Op} {t : Nat} {p : String} {af : Array Edge} : guardR ops ρ ⟨d, op, t, p, af, none⟩ = true := rfl
theorem BC {d : Option Nat} {op : Op} {t : Nat} {p : String} {af : Array Edge} (hs : CP T ρ h op v h') (hw : wqL P T ops rest Q (ρ.put d v) h') : wqL P T ops (⟨d, op, t, p, af, none⟩ :: rest) Q ρ h := by
 simp only [wqL]; rw [if_pos ET]; exact PJ hs hw
theorem CU {k : Nat} {d : Option Nat} {op : Op} {t : Nat} {p : String} {af : Array Edge} (hs : CP T ρ h op v h') (hw : wqD P T ops (k + 1) rest Q (ρ.put d v) h') : wqD P T ops k (⟨d, op, t, p, af, none⟩ :: rest) Q ρ h := by
 simp only [wqD]; rw [if_pos ET]; exact PJ hs hw
theorem YR {k : Nat} {ps : List DZ} {d : Option Nat} {op : Op} {t : Nat} {p : String} {af : Array Edge} (hl : CL ops k = false) (hp : ∀ p ∈ ps, p.holds T h) (hs : CP T ρ h op v h) (hw : wqE P T ops (k + 1) rest ps Q (ρ.put d v) h) : wqE P T ops k (⟨d, op, t, p, af, none⟩ :: rest) ps Q ρ h := by
 simp only [wqE]; rw [if_pos ET]
 refine PJ hs ?_
 refine ⟨hp, ?_, ?_⟩
 ·intro h; rw [hl] at h; cases h
 ·rw [if_neg (by rw [hl]; simp)]; exact hw
theorem VV {k : Nat} {ps : List DZ} {d : Option Nat} {op : Op} {t : Nat} {p : String} {af : Array Edge} (hl : CL ops k = false) (hs : CP T ρ h op v h') (hp : ∀ p ∈ ps, p.holds T h') (hw : wqE P T ops (k + 1) rest ps Q (ρ.put d v) h') : wqE P T ops k (⟨d, op, t, p, af, none⟩ :: rest) ps Q ρ h := by
 simp only [wqE]; rw [if_pos ET]
 refine PJ hs ?_
 refine ⟨hp, ?_, ?_⟩
 ·intro h; rw [hl] at h; cases h
 ·rw [if_neg (by rw [hl]; simp)]; exact hw
theorem YP {k : Nat} {ps : List DZ} {d : Option Nat} {op : Op} {t : Nat} {p : String} {af : Array Edge} (hl : CL ops k = true) (hp : ∀ p ∈ ps, p.holds T h) (hs : CP T ρ h op v h) (hu : v.under h.length = true) (hw : wqE P T ops (k + 1) rest (⟨ρ, op, v⟩ :: ps) Q (ρ.put d v) h) : wqE P T ops k (⟨d, op, t, p, af, none⟩ :: rest) ps Q ρ h := by
 simp only [wqE]; rw [if_pos ET]
 refine PJ hs ?_
 refine ⟨hp, fun _ => hu, ?_⟩
 rw [if_pos hl]; exact hw
def Guard (ops : Array Oper) (ρ : Rho) (j : Nat) (b : Bool) : Prop := ∃ d, (ops[j]?).bind (·.dst) = some d ∧ ρ d = .bool b
theorem IA {d : Option Nat} {op : Op} {t : Nat} {p : String} {af : Array Edge} {j : Nat} {w b : Bool} (hg : Guard ops ρ j b) : guardR ops ρ ⟨d, op, t, p, af, some (j, w)⟩ = (b == w) := by
 obtain ⟨e, h1, h2⟩ := hg
 simp only [guardR, h1, h2]
theorem ES {j d : Nat} {b : Bool} (h1 : (ops[j]?).bind (·.dst) = some d) (h2 : ρ.ev (.tmp d) = some (.bool b)) : Guard ops ρ j b := ⟨d, h1, by simpa [Rho.ev] using h2⟩
theorem eE {d : Option Nat} {op : Op} {t : Nat} {p : String} {af : Array Edge} {j : Nat} {w : Bool} (hg : Guard ops ρ j w) (hw : wqL P T ops (⟨d, op, t, p, af, none⟩ :: rest) Q ρ h) : wqL P T ops (⟨d, op, t, p, af, some (j, w)⟩ :: rest) Q ρ h := by
 simp only [wqL] at hw ⊢; rw [if_pos ET] at hw; rw [if_pos (by rw [IA hg]; simp)]; exact hw
theorem dQ {k : Nat} {d : Option Nat} {op : Op} {t : Nat} {p : String} {af : Array Edge} {j : Nat} {w : Bool} (hg : Guard ops ρ j w) (hw : wqD P T ops k (⟨d, op, t, p, af, none⟩ :: rest) Q ρ h) : wqD P T ops k (⟨d, op, t, p, af, some (j, w)⟩ :: rest) Q ρ h := by
 simp only [wqD] at hw ⊢; rw [if_pos ET] at hw; rw [if_pos (by rw [IA hg]; simp)]; exact hw
theorem Yq {d : Option Nat} {op : Op} {t : Nat} {p : String} {af : Array Edge} {j : Nat} {w : Bool} {w' : Bool} (hg : Guard ops ρ j w') (hw : wqL P T ops rest Q (ρ.put d V.undef) h) (hne : (w' == w) = false := by rfl) : wqL P T ops (⟨d, op, t, p, af, some (j, w)⟩ :: rest) Q ρ h := by
 simp only [wqL]; rw [if_neg (by rw [IA hg, hne]; simp)]; exact hw
theorem YK {k : Nat} {d : Option Nat} {op : Op} {t : Nat} {p : String} {af : Array Edge} {j : Nat} {w : Bool} {w' : Bool} (hg : Guard ops ρ j w') (hw : wqD P T ops (k + 1) rest Q (ρ.put d V.undef) h) (hne : (w' == w) = false := by rfl) : wqD P T ops k (⟨d, op, t, p, af, some (j, w)⟩ :: rest) Q ρ h := by
 simp only [wqD]; rw [if_neg (by rw [IA hg, hne]; simp)]; exact hw
theorem eF {d : Option Nat} {op : Op} {t : Nat} {p : String} {af : Array Edge} {j : Nat} {b : Bool} (hg : Guard ops ρ j b) (h1 : b = true → wqL P T ops (⟨d, op, t, p, af, none⟩ :: rest) Q ρ h) (h2 : b = false → wqL P T ops rest Q (ρ.put d V.undef) h) : wqL P T ops (⟨d, op, t, p, af, some (j, true)⟩ :: rest) Q ρ h := by
 cases b
 ·exact Yq hg (h2 rfl)
 ·exact eE hg (h1 rfl)
theorem aZ {d : Option Nat} {op : Op} {t : Nat} {p : String} {af : Array Edge} {j : Nat} {b : Bool} (hg : Guard ops ρ j b) (h1 : b = false → wqL P T ops (⟨d, op, t, p, af, none⟩ :: rest) Q ρ h) (h2 : b = true → wqL P T ops rest Q (ρ.put d V.undef) h) : wqL P T ops (⟨d, op, t, p, af, some (j, false)⟩ :: rest) Q ρ h := by
 cases b
 ·exact eE hg (h1 rfl)
 ·exact Yq hg (h2 rfl)
theorem dR {k : Nat} {d : Option Nat} {op : Op} {t : Nat} {p : String} {af : Array Edge} {j : Nat} {b : Bool} (hg : Guard ops ρ j b) (h1 : b = true → wqD P T ops k (⟨d, op, t, p, af, none⟩ :: rest) Q ρ h) (h2 : b = false → wqD P T ops (k + 1) rest Q (ρ.put d V.undef) h) : wqD P T ops k (⟨d, op, t, p, af, some (j, true)⟩ :: rest) Q ρ h := by
 cases b
 ·exact YK hg (h2 rfl)
 ·exact dQ hg (h1 rfl)
theorem aK {k : Nat} {d : Option Nat} {op : Op} {t : Nat} {p : String} {af : Array Edge} {j : Nat} {b : Bool} (hg : Guard ops ρ j b) (h1 : b = false → wqD P T ops k (⟨d, op, t, p, af, none⟩ :: rest) Q ρ h) (h2 : b = true → wqD P T ops (k + 1) rest Q (ρ.put d V.undef) h) : wqD P T ops k (⟨d, op, t, p, af, some (j, false)⟩ :: rest) Q ρ h := by
 cases b
 ·exact dQ hg (h1 rfl)
 ·exact YK hg (h2 rfl)
def callsWhom (ρ : Rho) : Op → Option (Nat × List V)
 | .call { callee := .value f, args := xs, .. } => match ρ.ev f, evs ρ.ev xs.toList with
  | some (.fn g caps), some vs => some (g, vs ++ caps)
  | _, _ => none
 | _ => none
theorem To {z : Heap → Prop} {op : Op} {K : V → Heap → Prop} {g : Nat} {args : List V} (hc : callsWhom ρ op = some (g, args)) (hcall : Call P g args h v h') (hz : z h') (hk : K v h') : wqO P T z op ρ h K := by
 unfold callsWhom at hc
 split at hc
 ·rename_i f xs ts
  split at hc
  ·rename_i g' caps vs h1 h2
   simp only [Option.some.injEq, Prod.mk.injEq] at hc
   obtain ⟨rfl, rfl⟩ := hc
   simp only [wqO, h1, h2]
   exact ⟨v, h', hcall, hz, hk⟩
  ·cases hc
 ·cases hc
theorem Yp {d : Option Nat} {op : Op} {t : Nat} {p : String} {af : Array Edge} {g : Nat} {args : List V} (hc : callsWhom ρ op = some (g, args)) (hcall : Call P g args h v h') (hw : wqL P T ops rest Q (ρ.put d v) h') : wqL P T ops (⟨d, op, t, p, af, none⟩ :: rest) Q ρ h := by
 simp only [wqL]; rw [if_pos ET]; exact To hc hcall trivial hw
theorem YJ {k : Nat} {d : Option Nat} {op : Op} {t : Nat} {p : String} {af : Array Edge} {g : Nat} {args : List V} (hc : callsWhom ρ op = some (g, args)) (hcall : Call P g args h v h') (hz : h <+: h' ∨ (h.length ≤ h'.length ∧ Cv ops k = true)) (hw : wqD P T ops (k + 1) rest Q (ρ.put d v) h') : wqD P T ops k (⟨d, op, t, p, af, none⟩ :: rest) Q ρ h := by
 simp only [wqD]; rw [if_pos ET]; exact To hc hcall hz hw
theorem Qe {k : Nat} {d : Option Nat} {op : Op} {t : Nat} {p : String} {af : Array Edge} {g : Nat} {args : List V} (hc : callsWhom ρ op = some (g, args)) (hcall : Call P g args h v h) (hw : wqD P T ops (k + 1) rest Q (ρ.put d v) h) : wqD P T ops k (⟨d, op, t, p, af, none⟩ :: rest) Q ρ h :=
 YJ hc hcall (.inl (List.prefix_refl _)) hw
end ops
section steps
variable {ρ : Rho} {h h' : Heap} {v a b : V} {x y z : Operand}
theorem CB {op : Op} (hc : Ih op = false) (hp : pureOp T ρ.ev op = some v) : CP T ρ h op v h := ⟨hc, by unfold stepF; rw [hp]⟩
theorem Cw {op : Op} (hc : Ih op = false) (hp : pureOp T ρ.ev op = none) (hm : memOp T ρ.ev h op = some (v, h')) : CP T ρ h op v h' := ⟨hc, by unfold stepF; rw [hp]; exact hm⟩
theorem Ol (hx : ρ.ev x = some v) : CP T ρ h (.move x) v h := CB rfl hx
theorem JV (hx : ρ.ev x = some v) : CP T ρ h (.assign x) v h := CB rfl hx
theorem MW {c : Bool} (hc : ρ.ev z = some (.bool c)) (hx : ρ.ev x = some a) (hy : ρ.ev y = some b) (hv : (if c then a else b) = v) : CP T ρ h (.pick z x y) v h := CB rfl (by simp only [pureOp, hc, hx, hy, hv])
theorem Lh (hc : ρ.ev z = some (.bool true)) (hx : ρ.ev x = some a) (hy : ρ.ev y = some b) : CP T ρ h (.pick z x y) a h := MW hc hx hy rfl
theorem NS (hc : ρ.ev z = some (.bool false)) (hx : ρ.ev x = some a) (hy : ρ.ev y = some b) : CP T ρ h (.pick z x y) b h := MW hc hx hy rfl
theorem EC {op : BinOp} {t u : Nat} (hx : ρ.ev x = some a) (hy : ρ.ev y = some b) (hv : vbin T op t a b = some v) : CP T ρ h (.binOp op t x y u) v h := CB rfl (by simp only [pureOp, hx, hy, hv])
theorem bV {op : UnOp} {t : Nat} (hx : ρ.ev x = some a) (hv : vun op a = some v) : CP T ρ h (.unOp op t x) v h := CB rfl (by simp only [pureOp, hx, hv])
theorem WH {bb off : Nat} (hx : ρ.ev x = some (.ptr bb off)) : CP T ρ h (.nilCheck x) (.ptr bb off) h := CB rfl (by simp only [pureOp, hx])
theorem II {i : Nat} {vs : List V} (hx : ρ.ev x = some (.tup vs)) (hv : vs[i]? = some v) : CP T ρ h (.extract x i) v h := CB rfl (by simp only [pureOp, hx, hv])
def fieldA (T : Tab) (t f : Nat) (cs : List V) : Option V :=
 match T t with
 | some { k := .strct fs, .. } => match fs[f]? with
  | some (ft, fo) => match T ft with
   | some i => if fo + i.size ≤ cs.length then (if i.k.agg then some (.agg ((cs.drop fo).take i.size)) else cs[fo]?) else none
   | none => none
  | none => none
 | _ => none
theorem Ze {t f : Nat} {cs : List V} (hx : ρ.ev x = some (.agg cs)) (hv : fieldA T t f cs = some v) : CP T ρ h (.field t x f) v h := by
 refine CB rfl ?_
 simp only [pureOp, hx]
 unfold fieldA at hv
 split at hv
 ·rename_i hT
  simp only [hT]
  exact hv
 ·cases hv
theorem RY {f : Nat} {caps : Array Operand} {vs : List V} {first : Array Operand} (hfi : first.toList = []) (hvs : evs ρ.ev caps.toList = some vs) : CP T ρ h (.makeFunc (.func f) first caps) (.fn f vs) h := CB rfl (by simp only [pureOp, hfi, hvs])
def YY (T : Tab) (t f : Nat) : Option Nat :=
 match T t with
 | some { k := .strct fs, .. } => match fs[f]? with
  | some (ft, fo) => match T ft with
   | some i => if i.size = 0 then none else some fo
   | none => none
  | none => none
 | _ => none
theorem Lf {t f bb off k : Nat} (hx : ρ.ev x = some (.ptr bb off)) (hf : YY T t f = some k) : CP T ρ h (.fieldAddr t x f) (.ptr bb (off + k)) h := by
 refine CB rfl ?_
 simp only [pureOp, hx]
 unfold YY at hf
 split at hf
 ·rename_i hT
  simp only [hT]
  split at hf
  ·rename_i e2
   simp only [e2]
   split at hf
   ·rename_i e3
    simp only [e3]
    split at hf
    ·cases hf
    ·rename_i e4
     simp only [Option.some.injEq] at hf
     subst hf
     rw [if_neg e4]
   ·cases hf
  ·cases hf
 ·cases hf
def idxV (T : Tab) (t : Nat) (a : V) (i : Int) : Option V :=
 match T t, a with
 | some { k := .slice e, .. }, .slc b off len cap _ _ => match T e with
  | some ei => if 0 ≤ i ∧ i < len then some (.ptr b (off + i.toNat * ei.size)) else none
  | none => none
 | some { k := .arr n e, .. }, .ptr b off => match T e with
  | some ei => if 0 ≤ i ∧ i < n then some (.ptr b (off + i.toNat * ei.size)) else none
  | none => none
 | _, _ => none
theorem Lg {t : Nat} {k : IntKind} {i : Int} (hx : ρ.ev x = some a) (hy : ρ.ev y = some (.int k i)) (hv : idxV T t a i = some v) : CP T ρ h (.indexAddr t x y) v h := by
 refine CB rfl ?_
 simp only [pureOp, hx, hy]
 unfold idxV at hv
 split at hv <;> first | (rename_i hT _; simp only [hT]; exact hv) | (rename_i hT; simp only [hT]; exact hv) | cases hv
theorem Oj {t b o o' : Nat} {k : IntKind} {i : Int} (hx : ρ.ev x = some a) (hy : ρ.ev y = some (.int k i)) (hv : idxV T t a i = some (.ptr b o')) (ho : o' = o) : CP T ρ h (.indexAddr t x y) (.ptr b o) h := by
 subst ho; exact Lg hx hy hv
def loadV (T : Tab) (t : Nat) (h : Heap) (b off : Nat) : Option V :=
 match T t with
 | some i => if i.k.agg then (h.loadN b off i.size).map .agg else match h.loadN b off 1 with
  | some [v] => some v
  | _ => none
 | none => none
theorem MV {t bb off : Nat} (hx : ρ.ev x = some (.ptr bb off)) (hv : loadV T t h bb off = some v) : CP T ρ h (.load t x) v h := by
 refine Cw rfl rfl ?_
 simp only [memOp, hx]
 unfold loadV at hv
 split at hv
 ·rename_i i hT
  simp only [hT]
  split at hv
  ·rename_i ha
   simp only [ha, if_true]
   cases hl : h.loadN bb off i.size with
   | none => rw [hl] at hv; cases hv
   | some cs => rw [hl] at hv; simp only [Option.map_some, Option.some.injEq] at hv ⊢; rw [hv]
  ·rename_i ha
   simp only [ha]
   split at hv
   ·rename_i u hu
    simp only [Option.some.injEq] at hv
    subst hv
    simp only [hu, Bool.false_eq_true, if_false]
   ·cases hv
 ·cases hv
def storeV (T : Tab) (t : Nat) (h : Heap) (b off : Nat) (v : V) : Option Heap :=
 match T t, v with
 | some _, .tup _ => none
 | some i, v => if v.cells.length = i.size then h.storeN b off v.cells else none
 | none, _ => none
theorem Eg {t bb off : Nat} (hx : ρ.ev x = some (.ptr bb off)) (hy : ρ.ev y = some a) (hv : storeV T t h bb off a = some h') : CP T ρ h (.store t x y) V.undef h' := by
 refine Cw rfl rfl ?_
 simp only [memOp, hx, hy]
 unfold storeV at hv
 split at hv
 ·cases hv
 ·rename_i i hT hne
  simp only [hT]
  split at hv
  ·rename_i hl
   rw [if_pos hl, hv]
   rfl
  ·cases hv
 ·cases hv
theorem Ld {t : Nat} {i : TI} (hT : T t = some i) : CP T ρ h (.alloc t) (.ptr h.length 0) (h ++ [.row i.zero true]) := Cw rfl rfl (by simp only [memOp, hT])
theorem gL {t : Nat} {i : TI} (hT : T t = some i) (hx : ρ.ev x = some a) (ht : a.isTup = false) : CP T ρ h (.box t x) (.ptr h.length 0) (h ++ [.row a.cells true]) := Cw rfl rfl (by
 simp only [memOp, hT, hx]
 cases a <;> first | rfl | cases ht)
theorem Oi {t : Nat} {i : TI} {cs : List V} (hT : T t = some i) (hx : ρ.ev x = some a) (ht : a.isTup = false) (hc : a.cells = cs) : CP T ρ h (.box t x) (.ptr h.length 0) (h ++ [.row cs true]) := by
 subst hc; exact gL hT hx ht
theorem Jn {bi : Builtin} {xs : Array Operand} {ts : Array Nat} {vs : List V} (hx : evs ρ.ev xs.toList = some vs) (hv : builtinP T bi ts.toList vs = some v) : CP T ρ h (.call { callee := .builtin bi, args := xs, argTypes := ts }) v h := CB rfl (by simp only [pureOp, hx, hv])
end steps
attribute [irreducible] CP Guard
end Go.Proofs.YtncjbjlmgnjhiaaGreat.VM
namespace Go.Proofs.YtncjbjlmgnjhiaaGreat.VM
open Go
set_option linter.unusedVariables false
set_option linter.unusedSimpArgs false
variable {P : Program} {T : Tab} {α : Type}
theorem Bc {H H' : Heap} (hp : H <+: H') {b off n : Nat} {cs : List V} (h : H.loadN b off n = some cs) : H'.loadN b off n = some cs := by
 obtain ⟨l, rfl⟩ := hp
 unfold Heap.loadN at h ⊢
 split at h
 ·rename_i ds wr hb
  rw [List.getElem?_append_left (List.getElem?_eq_some_iff.1 hb).1, hb]
  exact h
 ·cases h
theorem DI (h l : Heap) (k off n : Nat) : (h ++ l).loadN (h.length + k) off n = Heap.loadN l k off n := by
 unfold Heap.loadN
 rw [List.getElem?_append_right (by omega), Nat.add_sub_cancel_left]
theorem Ab (h l : Heap) (off n : Nat) : (h ++ l).loadN h.length off n = Heap.loadN l 0 off n := DI h l 0 off n
theorem Ki (h l : Heap) (k off : Nat) (vs : List V) : (h ++ l).storeN (h.length + k) off vs = (Heap.storeN l k off vs).map (h ++ ·) := by
 unfold Heap.storeN
 rw [List.getElem?_append_right (by omega), Nat.add_sub_cancel_left]
 cases hk : l[k]? with
 | none => rfl
 | some x =>
  cases x with
  | row cs wr =>
   cases wr with
   | false => rfl
   | true =>
    simp only
    split
    ·simp only [Option.map_some, Option.some.injEq]
     rw [List.set_append_right _ _ (by omega), Nat.add_sub_cancel_left]
    ·rfl
  | mp es => rfl
  | dead => rfl
theorem JY (h l : Heap) (off : Nat) (vs : List V) : (h ++ l).storeN h.length off vs = (Heap.storeN l 0 off vs).map (h ++ ·) := Ki h l 0 off vs
theorem AZ {t : Nat} {i : TI} {h : Heap} {b off : Nat} {cs : List V} (hT : T t = some i) (ha : i.k.agg = true) (hl : h.loadN b off i.size = some cs) : loadV T t h b off = some (.agg cs) := by
 simp [loadV, hT, ha, hl]
theorem AF {t : Nat} {i : TI} {h : Heap} {b off : Nat} {c : V} (hT : T t = some i) (ha : i.k.agg = false) (hl : h.loadN b off 1 = some [c]) : loadV T t h b off = some c := by
 simp [loadV, hT, ha, hl]
def Sl (sz : Nat) (R : List V → α → Prop) (H : Heap) (v : V) (xs : List α) : Prop :=
 (v = .AN ∧ xs = []) ∨ ∃ b off cap t cs wr, v = .slc b off xs.length cap t sz ∧ xs.length ≤ cap ∧ H[b]? = some (.row cs wr) ∧ off + xs.length * sz ≤ cs.length ∧ ∀ (k : Nat) x, xs[k]? = some x → R ((cs.drop (off + k * sz)).take sz) x
theorem Sl.mono {sz : Nat} {R : List V → α → Prop} {H H' : Heap} {v : V} {xs : List α} (hp : H <+: H') (h : Sl sz R H v xs) : Sl sz R H' v xs := by
 refine h.imp id ?_
 rintro ⟨b, off, cap, t, cs, wr, h1, h2, h3, h4⟩
 refine ⟨b, off, cap, t, cs, wr, h1, h2, ?_, h4⟩
 obtain ⟨l, rfl⟩ := hp
 rw [List.getElem?_append_left (List.getElem?_eq_some_iff.1 h3).1]
 exact h3
theorem Sl.len {sz : Nat} {R : List V → α → Prop} {H : Heap} {v : V} {xs : List α} (h : Sl sz R H v xs) {t e : Nat} {i : TI} (hT : T t = some i) (hk : i.k = .slice e) : builtinP T .len [t] [v] = some (.int .i64 xs.length) := by
 obtain ⟨k, size, bytes, zero, cmp⟩ := i
 simp only at hk
 subst hk
 rcases h with ⟨rfl, rfl⟩ | ⟨b, off, cap, tt, cs, wr, rfl, _⟩
 ·simp [builtinP, hT]
 ·simp [builtinP, hT]
theorem Sl.get {sz : Nat} {R : List V → α → Prop} {H : Heap} {v : V} {xs : List α} (h : Sl sz R H v xs) {t e : Nat} {i ie : TI} (hT : T t = some i) (hk : i.k = .slice e) (hE : T e = some ie) (hs : ie.size = sz) {k : Nat} {x : α} (hx : xs[k]? = some x) :
  ∃ b o cs, idxV T t v (k : Int) = some (.ptr b o) ∧ R cs x ∧ cs.length = sz ∧ H.loadN b o sz = some cs ∧ ∀ (j : Nat) c, cs[j]? = some c → H.loadN b (o + j) 1 = some [c] := by
 obtain ⟨kk, size, bytes, zero, cmp⟩ := i
 simp only at hk
 subst hk
 rcases h with ⟨rfl, rfl⟩ | ⟨b, off, cap, tt, cs, wr, rfl, h1, h2, h3, h4⟩
 ·simp at hx
 ·have hkl : k < xs.length := (List.getElem?_eq_some_iff.1 hx).1
  have hsz : (k + 1) * sz ≤ xs.length * sz := Nat.mul_le_mul_right _ hkl
  rw [Nat.add_mul, Nat.one_mul] at hsz
  have hl : ((cs.drop (off + k * sz)).take sz).length = sz := by simp; omega
  refine ⟨b, off + k * sz, (cs.drop (off + k * sz)).take sz, ?_, h4 k x hx, hl, ?_, fun j c hj => ?_⟩
  ·simp only [idxV, hT, hE, hs]
   rw [if_pos ⟨by omega, by omega⟩]
   simp
  ·unfold Heap.loadN
   rw [h2]
   simp only
   rw [if_pos (by omega)]
  ·have hj' : j < sz := by rw [← hl]; exact (List.getElem?_eq_some_iff.1 hj).1
   unfold Heap.loadN
   rw [h2]
   simp only
   rw [if_pos (by omega)]
   rw [List.getElem?_take, if_pos hj', List.getElem?_drop] at hj
   obtain ⟨hlt, rfl⟩ := List.getElem?_eq_some_iff.1 hj
   simp only [Option.some.injEq]
   rw [List.drop_eq_getElem_cons hlt]
   rfl
theorem wrap_i64 {n : Int} (h1 : -9223372036854775808 ≤ n) (h2 : n ≤ 9223372036854775807) : IntKind.i64.wrap n = n := by
 unfold IntKind.wrap
 simp only [IntKind.bits, IntKind.signed, Bool.true_and, decide_eq_true_eq, Nat.reduceSub, Int.reducePow]
 split <;> (rename_i hh; simp at hh; omega)
theorem Am {n : Nat} (h : n ≤ 9223372036854775807) : IntKind.i64.wrap (n : Int) = n := wrap_i64 (by omega) (by omega)
theorem Sl.take {sz : Nat} {R : List V → α → Prop} {H : Heap} {v : V} {xs : List α} (h : Sl sz R H v xs) {k : Nat} (hk : k ≤ xs.length) : ∃ u, sliceV sz v none (some (.int .i64 (k : Int))) none = some u ∧ Sl sz R H u (xs.take k) := by
 rcases h with ⟨rfl, rfl⟩ | ⟨b, off, cap, t, cs, wr, rfl, h1, h2, h3, h4⟩
 ·simp at hk
  subst hk
  exact ⟨.AN, rfl, .inl ⟨rfl, by simp⟩⟩
 ·have hm : Nat.min k xs.length = k := Nat.min_eq_left hk
  refine ⟨.slc b off k cap t sz, ?_, .inr ⟨b, off, cap, t, cs, wr, by rw [List.length_take, Nat.min_eq_left hk], by rw [List.length_take]; omega, h2, ?_, fun j x hj => ?_⟩⟩
  ·simp only [sliceV, boundV, Option.isSome_none, Bool.false_and, Bool.false_eq_true, if_false, ne_eq, not_true_eq_false]
   rw [if_pos (by omega)]
   simp
  ·rw [List.length_take, Nat.min_eq_left hk]
   have : k * sz ≤ xs.length * sz := Nat.mul_le_mul_right _ hk
   omega
  ·rw [List.getElem?_take] at hj
   split at hj
   ·exact h4 j x hj
   ·cases hj
theorem Ko {t n e b off q : Nat} {i ie : TI} (hT : T t = some i) (hk : i.k = .arr n e) (hE : T e = some ie) (hs : ie.size = 1) (hq : q < n) : idxV T t (.ptr b off) (q : Int) = some (.ptr b (off + q)) := by
 obtain ⟨k, size, bytes, zero, cmp⟩ := i
 simp only at hk
 subst hk
 simp only [idxV, hT, hE, hs]
 rw [if_pos ⟨by omega, by omega⟩]
 simp
theorem La {t q : Nat} {i : TI} {H : Heap} {cs : List V} {w : Bool} {v : V} (hT : T t = some i) (ha : i.k.agg = false) (hq : cs[q]? = some v) (l : Heap) : loadV T t (H ++ (.row cs w :: l)) H.length q = some v := by
 refine AF hT ha ?_
 obtain ⟨hlt, rfl⟩ := List.getElem?_eq_some_iff.1 hq
 rw [Ab]
 unfold Heap.loadN
 simp only [List.getElem?_cons_zero]
 rw [if_pos (by omega), List.drop_eq_getElem_cons hlt]
 rfl
theorem QH {t q : Nat} {i : TI} {H : Heap} {cs : List V} {v : V} (hT : T t = some i) (hs : i.size = 1) (hv : v.cells = [v]) (ht : v.isTup = false) (hq : q < cs.length) : storeV T t (H ++ [.row cs true]) H.length q v = some (H ++ [.row (cs.set q v) true]) := by
 have hst : (H ++ [Blk.row cs true]).storeN H.length q [v] = some (H ++ [.row (cs.set q v) true]) := by
  rw [JY]
  unfold Heap.storeN
  simp only [List.getElem?_cons_zero, List.length_cons, List.length_nil]
  rw [if_pos (by omega)]
  rfl
 unfold storeV
 split
 ·cases ht
 ·rename_i j hT' _
  rw [hT] at hT'
  obtain rfl := Option.some.inj hT'
  rw [if_pos (by rw [hv, hs]; rfl), hv]
  exact hst
 ·rename_i hT'
  rw [hT] at hT'
  cases hT'
theorem IF {ρ : Rho} {h : Heap} {t b off : Nat} {x : Operand} {v : V} (hx : ρ.ev x = some (.ptr b off)) (hl : loadV T t h b off = some v) : (⟨ρ, .load t x, v⟩ : DZ).holds T h := by
 unfold DZ.holds
 simp only [memOp, hx]
 unfold loadV at hl
 split at hl
 ·rename_i i hT
  simp only [hT]
  split at hl
  ·rename_i ha
   simp only [ha, if_true]
   cases hc : h.loadN b off i.size with
   | none => rw [hc] at hl; cases hl
   | some cs => rw [hc] at hl; simp only [Option.map_some, Option.some.injEq] at hl ⊢; rw [hl]
  ·rename_i ha
   simp only [ha]
   split at hl
   ·rename_i u hu
    simp only [Option.some.injEq] at hl
    subst hl
    simp only [hu, Bool.false_eq_true, if_false]
   ·cases hl
 ·cases hl
theorem AG {n : Nat} (h : n < 9223372036854775807) : IntKind.i64.wrap ((n : Int) + 1) = (n : Int) + 1 := wrap_i64 (by omega) (by omega)
theorem JU {ρ : Rho} {h h' : Heap} {a b v : V} {xs : Array Operand} {t1 t2 : Nat} {e : Nat} {i ie : TI} {n : Nat} {news : List V} (hx : evs ρ.ev xs.toList = some [a, b]) (hT : T t1 = some i) (hk : i.k = .slice e) (hE : T e = some ie)
  (hn : newsOf T ie t2 b h = some (n, news)) (ha : appendV ie a n news h = some (v, h')) : CP T ρ h (.call { callee := .builtin .append, args := xs, argTypes := #[t1, t2] }) v h' := by
 obtain ⟨k, size, bytes, zero, cmp⟩ := i
 simp only at hk
 subst hk
 refine Cw rfl ?_ ?_
 ·simp only [pureOp, hx, builtinP]
 ·simp only [memOp, hx, hT, hE, hn, ha]
theorem NT {ρ : Rho} {h : Heap} {a v : V} {x : Operand} {lo hi mx : Option Operand} {t e : Nat} {i ie : TI} {l u m : Option V} (hT : T t = some i) (hk : i.k = .slice e) (hE : T e = some ie) (hx : ρ.ev x = some a)
  (hl : optEv ρ.ev lo = some l) (hu : optEv ρ.ev hi = some u) (hm : optEv ρ.ev mx = some m) (hv : sliceV ie.size a l u m = some v) : CP T ρ h (.slice t x lo hi mx) v h := by
 obtain ⟨k, size, bytes, zero, cmp⟩ := i
 simp only at hk
 subst hk
 exact CB rfl (by simp only [pureOp, hT, hx, hl, hu, hm, hE, hv])
theorem Cy {ρ : Rho} {h : Heap} {t e len : Nat} {i ie : TI} {ps : Array (Nat × Operand)} {vs : List (Nat × V)} {cs : List V} (hT : T t = some i) (hk : i.k = .slice e) (hE : T e = some ie) (hp : evParts ρ.ev ps.toList = some vs) (hl : len * ie.size ≤ 2 ^ 24)
  (hf : fillV (FG ie.size len) (Bw ie.zero len) vs = some cs) : CP T ρ h (.buildSlice t len ps) (.slc h.length 0 len len true ie.size) (h ++ [.row cs true]) := by
 obtain ⟨k, size, bytes, zero, cmp⟩ := i
 simp only at hk
 subst hk
 refine Cw rfl rfl ?_
 simp only [memOp, hT, hE, hp]
 rw [if_pos hl, hf]
theorem Hh {ρ : Rho} {h : Heap} {t e sz : Nat} {i ie : TI} (hT : T t = some i) (hk : i.k = .slice e) (hE : T e = some ie) (hs : ie.size = sz) : CP T ρ h (.buildSlice t 0 #[]) (.slc h.length 0 0 0 true sz) (h ++ [.row [] true]) := by
 subst hs
 exact Cy (vs := []) (cs := []) hT hk hE rfl (by simp) rfl
theorem NR {ρ : Rho} {h : Heap} {t : Nat} {i : TI} {fs : List (Nat × Nat)} {ps : Array (Nat × Operand)} {vs : List (Nat × V)} {cs : List V} (hT : T t = some i) (hk : i.k = .strct fs) (hp : evParts ρ.ev ps.toList = some vs)
  (hf : fillV (structPlace T fs) i.zero vs = some cs) : CP T ρ h (.build t ps) (.agg cs) h := by
 obtain ⟨k, size, bytes, zero, cmp⟩ := i
 simp only at hk
 subst hk
 refine CB rfl ?_
 simp only [pureOp, hT, hp, hf, Option.map_some]
theorem Fs {ρ : Rho} {h : Heap} {t e : Nat} {i ie : TI} {x y : Operand} {kx ky : IntKind} {n c : Int} (hT : T t = some i) (hk : i.k = .slice e) (hE : T e = some ie) (hx : ρ.ev x = some (.int kx n)) (hy : ρ.ev y = some (.int ky c))
  (hb : 0 ≤ n ∧ n ≤ c ∧ (ie.bytes : Int) * c ≤ 2 ^ 48 ∧ c ≤ IntKind.i64.max) : CP T ρ h (.makeSlice t x y) (.slc h.length 0 n.toNat c.toNat true ie.size) (h ++ [.row (Bw ie.zero c.toNat) true]) := by
 obtain ⟨k, size, bytes, zero, cmp⟩ := i
 simp only at hk
 subst hk
 refine Cw rfl rfl ?_
 simp only [memOp, hT, hx, hy, hE]
 rw [if_pos hb]
theorem RX {ρ : Rho} {h : Heap} {sT dT : Nat} {x : Operand} {i j : TI} {k kx : IntKind} {n : Int} (hS : T sT = some j) (hD : T dT = some i) (hk : i.k = .int k) (hx : ρ.ev x = some (.int kx n)) : CP T ρ h (.convert sT dT x) (.int k (k.wrap n)) h := by
 obtain ⟨kk, size, bytes, zero, cmp⟩ := i
 simp only at hk
 subst hk
 exact CB rfl (by simp only [pureOp, hS, hD, hx])
end Go.Proofs.YtncjbjlmgnjhiaaGreat.VM
namespace Go.Proofs.YtncjbjlmgnjhiaaGreat.VM
open Go
set_option linter.unusedVariables false
set_option linter.unusedSimpArgs false
variable {P : Program} {T : Tab} {α : Type}
theorem Bb {ops : Array Oper} {l : List Oper} {Q : Rho → Heap → Prop} {ρ : Rho} {h h' : Heap} (e : h = h') (w : wqL P T ops l Q ρ h') : wqL P T ops l Q ρ h := by subst e; exact w
theorem cR {c : Code} {Q : Exit → Rho → Heap → Prop} {ρ : Rho} {h h' : Heap} (e : h = h') (w : wq P T c Q ρ h') : wq P T c Q ρ h := by subst e; exact w
theorem UH {ops : Array Oper} {k : Nat} {l : List Oper} {Q : Rho → Heap → Prop} {ρ : Rho} {h h' : Heap} (e : h = h') (w : wqD P T ops k l Q ρ h') : wqD P T ops k l Q ρ h := by subst e; exact w
theorem Kl {c : Code} {Q : Exit → Rho → Heap → Prop} {ρ : Rho} {h : Heap} (F : Rho → Prop) (h0 : F ρ) (w : ∀ ρ, F ρ → wq P T c Q ρ h) : wq P T c Q ρ h := w ρ h0
theorem Gt {α : Type} (cs : List α) : ∀ (vs : List α) (i : Nat) (j : Nat), (setL cs i vs)[j]? = if i ≤ j ∧ j < i + vs.length ∧ j < cs.length then vs[j - i]? else cs[j]?
 | vs, i, j => by
  induction vs generalizing cs i with
  | nil => simp [setL]; intro h1 h2; omega
  | cons v vs ih =>
   simp only [setL]
   rw [ih]
   simp only [List.length_set, List.length_cons]
   by_cases h1 : i + 1 ≤ j ∧ j < i + 1 + vs.length ∧ j < cs.length
   ·rw [if_pos h1, if_pos (by omega)]
    obtain ⟨k, rfl⟩ : ∃ k, j = i + 1 + k := ⟨j - (i + 1), by omega⟩
    rw [show i + 1 + k - (i + 1) = k by omega, show i + 1 + k - i = k + 1 by omega]
    simp
   ·rw [if_neg h1, List.getElem?_set]
    by_cases h2 : i = j
    ·subst h2
     by_cases h3 : i < cs.length
     ·simp [h3]
     ·simp [h3]
    ·rw [if_neg h2, if_neg (by omega)]
theorem GV {α : Type} {cs vs : List α} {i : Nat} (h : i + vs.length ≤ cs.length) : setL cs i vs = cs.take i ++ vs ++ cs.drop (i + vs.length) := by
 apply List.ext_getElem?
 intro j
 rw [Gt]
 by_cases h1 : j < i
 ·rw [if_neg (by omega), List.append_assoc, List.getElem?_append_left (by rw [List.length_take]; omega), List.getElem?_take, if_pos h1]
 ·by_cases h2 : j < i + vs.length
  ·rw [if_pos (by omega), List.append_assoc, List.getElem?_append_right (by rw [List.length_take]; omega), List.length_take, Nat.min_eq_left (by omega), List.getElem?_append_left (by omega)]
  ·rw [if_neg (by omega), List.getElem?_append_right (by simp; omega)]
   simp only [List.length_append, List.length_take, List.getElem?_drop]
   rw [Nat.min_eq_left (by omega)]
   congr 1; omega
def Cells (sz : Nat) (R : List V → α → Prop) (cs : List V) (xs : List α) : Prop := cs.length = xs.length * sz ∧ ∀ (k : Nat) x, xs[k]? = some x → R ((cs.drop (k * sz)).take sz) x
theorem Cells.nil {sz : Nat} {R : List V → α → Prop} : Cells sz R [] [] := ⟨by simp, by simp⟩
theorem Cells.one {sz : Nat} {R : List V → α → Prop} {cs : List V} {x : α} (hl : cs.length = sz) (h : R cs x) : Cells sz R cs [x] := ⟨by simp [hl], fun k y hk => by
 cases k with
 | zero => simp at hk; subst hk; simp [← hl]; exact h
 | succ k => simp at hk⟩
theorem Cells.app {sz : Nat} {R : List V → α → Prop} {cs ds : List V} {xs ys : List α} (h : Cells sz R cs xs) (g : Cells sz R ds ys) : Cells sz R (cs ++ ds) (xs ++ ys) := by
 refine ⟨by simp [h.1, g.1, Nat.add_mul], fun k x hk => ?_⟩
 by_cases hl : k < xs.length
 ·rw [List.getElem?_append_left hl] at hk
  have h1 := h.2 k x hk
  have : (k + 1) * sz ≤ xs.length * sz := Nat.mul_le_mul_right _ hl
  rw [Nat.add_mul, Nat.one_mul] at this
  have h3 := h.1
  rw [List.drop_append_of_le_length (by omega), List.take_append_of_le_length (by simp; omega)]
  exact h1
 ·obtain ⟨j, rfl⟩ : ∃ j, k = xs.length + j := ⟨k - xs.length, by omega⟩
  rw [List.getElem?_append_right (by omega), Nat.add_sub_cancel_left] at hk
  have h1 := g.2 j x hk
  rw [Nat.add_mul, ← h.1, List.drop_append, List.drop_eq_nil_of_le (by omega), List.nil_append, Nat.add_sub_cancel_left]
  exact h1
theorem Cells.cons {sz : Nat} {R : List V → α → Prop} {cs ds : List V} {x : α} {ys : List α} (hl : cs.length = sz) (h : R cs x) (g : Cells sz R ds ys) : Cells sz R (cs ++ ds) (x :: ys) := (Cells.one hl h).app g
theorem Cells.take {sz : Nat} {R : List V → α → Prop} {cs : List V} {xs : List α} (h : Cells sz R cs xs) (n : Nat) (hn : n ≤ xs.length) : Cells sz R (cs.take (n * sz)) (xs.take n) := by
 have h3 : n * sz ≤ xs.length * sz := Nat.mul_le_mul_right _ hn
 refine ⟨by rw [List.length_take, List.length_take, h.1, Nat.min_eq_left hn, Nat.min_eq_left h3], fun k x hk => ?_⟩
 rw [List.getElem?_take] at hk
 split at hk
 ·rename_i hkn
  have h1 := h.2 k x hk
  have : (k + 1) * sz ≤ n * sz := Nat.mul_le_mul_right _ hkn
  rw [Nat.add_mul, Nat.one_mul] at this
  rw [List.drop_take, List.take_take, Nat.min_eq_left (by omega)]
  exact h1
 ·cases hk
def At0 (sz : Nat) (R : List V → α → Prop) (cs : List V) (xs : List α) : Prop := xs.length * sz ≤ cs.length ∧ Cells sz R (cs.take (xs.length * sz)) xs
theorem At0.cell {sz : Nat} {R : List V → α → Prop} {cs : List V} {xs : List α} (h : At0 sz R cs xs) {k : Nat} {x : α} (hk : xs[k]? = some x) : R ((cs.drop (k * sz)).take sz) x := by
 have h1 := h.2.2 k x hk
 have hlt : k < xs.length := (List.getElem?_eq_some_iff.1 hk).1
 have : (k + 1) * sz ≤ xs.length * sz := Nat.mul_le_mul_right _ hlt
 rw [Nat.add_mul, Nat.one_mul] at this
 rw [List.drop_take, List.take_take, Nat.min_eq_left (by omega)] at h1
 exact h1
def Own (sz : Nat) (R : List V → α → Prop) (H : Heap) (b : Nat) (v : V) (xs : List α) : Prop :=
 ∃ cap t cs, v = .slc b 0 xs.length cap t sz ∧ xs.length ≤ cap ∧ H[b]? = some (.row cs true) ∧ cs.length = cap * sz ∧ At0 sz R cs xs
theorem Own.sl {sz : Nat} {R : List V → α → Prop} {H : Heap} {b : Nat} {v : V} {xs : List α} (h : Own sz R H b v xs) : Sl sz R H v xs := by
 obtain ⟨cap, t, cs, rfl, h1, h2, h3, h4⟩ := h
 refine .inr ⟨b, 0, cap, t, cs, true, rfl, h1, h2, by have := h4.1; omega, fun k x hk => ?_⟩
 rw [Nat.zero_add]
 exact h4.cell hk
def Fr (b : Nat) (H H' : Heap) : Prop := H.length ≤ H'.length ∧ ∀ b', b' < H.length → b' ≠ b → H'[b']? = H[b']?
theorem Fr.refl (b : Nat) (H : Heap) : Fr b H H := ⟨Nat.le_refl _, fun _ _ _ => rfl⟩
theorem Fr.pre {b : Nat} {H H' H0 : Heap} (hp : H0 <+: H) (hb : H0.length ≤ b) (h : Fr b H H') : H0 <+: H' := by
 have hl := hp.length_le
 refine List.prefix_iff_getElem?.2 fun i hi => ?_
 rw [h.2 i (by omega) (by omega)]
 exact List.prefix_iff_getElem?.1 hp i hi
theorem Fr.own {b c : Nat} {H H' : Heap} {sz : Nat} {R : List V → α → Prop} {v : V} {xs : List α} (h : Fr b H H') (hne : c ≠ b) (ho : Own sz R H c v xs) : Own sz R H' c v xs := by
 obtain ⟨cap, t, cs, h0, h1, h2, h3⟩ := ho
 exact ⟨cap, t, cs, h0, h1, by rw [h.2 c (List.getElem?_eq_some_iff.1 h2).1 hne]; exact h2, h3⟩
theorem Own.pre {H H' : Heap} {sz : Nat} {R : List V → α → Prop} {b : Nat} {v : V} {xs : List α} (hp : H <+: H') (ho : Own sz R H b v xs) : Own sz R H' b v xs := by
 obtain ⟨cap, t, cs, h0, h1, h2, h3⟩ := ho
 obtain ⟨l, rfl⟩ := hp
 exact ⟨cap, t, cs, h0, h1, by rw [List.getElem?_append_left (List.getElem?_eq_some_iff.1 h2).1]; exact h2, h3⟩
theorem Own.lt {H : Heap} {sz : Nat} {R : List V → α → Prop} {b : Nat} {v : V} {xs : List α} (ho : Own sz R H b v xs) : b < H.length := by
 obtain ⟨cap, t, cs, h0, h1, h2, h3⟩ := ho
 exact (List.getElem?_eq_some_iff.1 h2).1
theorem JP {sz : Nat} {R : List V → α → Prop} {cs : List V} {xs : List α} {t : Bool} (H : Heap) (h : Cells sz R cs xs) : Own sz R (H ++ [.row cs true]) H.length (.slc H.length 0 xs.length xs.length t sz) xs :=
 ⟨xs.length, t, cs, rfl, Nat.le_refl _, by simp, h.1, by rw [← h.1]; exact Nat.le_refl _, by rw [List.take_of_length_le (by rw [h.1]; exact Nat.le_refl _)]; exact h⟩
theorem Sl.news {sz : Nat} {R : List V → α → Prop} {H : Heap} {w : V} {ys : List α} (h : Sl sz R H w ys) {t2 e2 : Nat} {i2 ie : TI} (hT : T t2 = some i2) (hk : i2.k = .slice e2) (hs : ie.size = sz) : ∃ news, newsOf T ie t2 w H = some (ys.length, news) ∧ Cells sz R news ys := by
 obtain ⟨k, size, bytes, zero, cmp⟩ := i2
 simp only at hk
 subst hk
 rcases h with ⟨rfl, rfl⟩ | ⟨b, off, cap, t, cs, wr, rfl, h1, h2, h3, h4⟩
 ·exact ⟨[], by simp [newsOf, hT], Cells.nil⟩
 ·cases ys with
  | nil => exact ⟨[], by simp [newsOf, hT], Cells.nil⟩
  | cons y ys =>
   refine ⟨(cs.drop off).take ((y :: ys).length * sz), ?_, ?_, fun k x hk => ?_⟩
   ·simp only [newsOf, hT]
    rw [if_neg (by simp)]
    unfold Heap.loadN
    rw [h2]
    simp only
    rw [hs, if_pos (by omega)]
    rfl
   ·rw [List.length_take, List.length_drop]; omega
   ·have hlt : k < (y :: ys).length := (List.getElem?_eq_some_iff.1 hk).1
    have : (k + 1) * sz ≤ (y :: ys).length * sz := Nat.mul_le_mul_right _ hlt
    rw [Nat.add_mul, Nat.one_mul] at this
    rw [List.drop_take, List.take_take, Nat.min_eq_left (by omega), List.drop_drop]
    exact h4 k x hk
theorem OQ {t2 e2 n c : Nat} {i2 ie : TI} {t w : Bool} {sz : Nat} {H : Heap} {cs : List V} (hT : T t2 = some i2) (hk : i2.k = .slice e2) (hn : n ≠ 0) (hl : cs.length = n * ie.size) : newsOf T ie t2 (.slc H.length 0 n c t sz) (H ++ [.row cs w]) = some (n, cs) := by
 obtain ⟨k, size, bytes, zero, cmp⟩ := i2
 simp only at hk
 subst hk
 simp only [newsOf, hT]
 rw [if_neg hn, Ab]
 unfold Heap.loadN
 simp only [List.getElem?_cons_zero, Nat.zero_add, List.drop_zero, ← hl]
 rw [if_pos (Nat.le_refl _), List.take_of_length_le (Nat.le_refl _)]
 rfl
theorem Ka {sz : Nat} {R : List V → α → Prop} {H : Heap} {b : Nat} {v : V} {xs ys : List α} {news : List V} {ie : TI} (ho : Own sz R H b v xs) (hs : ie.size = sz) (hn : Cells sz R news ys)
  (hb : (xs.length + ys.length) * ie.bytes ≤ 2 ^ 47 ∧ xs.length + ys.length ≤ 2 ^ 47) :
  ∃ v' b' H', appendV ie v ys.length news H = some (v', H') ∧ Own sz R H' b' v' (xs ++ ys) ∧ Fr b H H' ∧ (b' = b ∨ H.length ≤ b') := by
 obtain ⟨cap, t, cs, rfl, h1, h2, h3, h4⟩ := ho
 have hlb : b < H.length := (List.getElem?_eq_some_iff.1 h2).1
 have hold : At0 sz R cs xs := h4
 unfold appendV
 rw [hs, if_neg (by rw [hn.1]; simp)]
 simp only
 rw [if_neg (by simp)]
 by_cases hc : xs.length + ys.length ≤ cap
 ·rw [if_pos hc]
  by_cases h0 : ys.length = 0
  ·rw [if_pos h0]
   have : ys = [] := List.length_eq_zero_iff.1 h0
   subst this
   exact ⟨_, b, H, rfl, ⟨cap, t, cs, by simp, by simpa using h1, h2, h3, by simpa using h4⟩, Fr.refl _ _, .inl rfl⟩
  ·rw [if_neg h0]
   have hm : (xs.length + ys.length) * sz ≤ cap * sz := Nat.mul_le_mul_right _ hc
   rw [Nat.add_mul] at hm
   have hfit : 0 + xs.length * sz + news.length ≤ cs.length := by rw [hn.1, h3]; omega
   refine ⟨.slc b 0 (xs.length + ys.length) cap t sz, b, H.set b (.row (setL cs (0 + xs.length * sz) news) true), ?_, ⟨cap, t, setL cs (0 + xs.length * sz) news, by simp, by simpa using hc, ?_, by rw [Ck]; exact h3, ?_⟩, ⟨by simp, fun b' hb' hne => ?_⟩, .inl rfl⟩
   ·unfold Heap.storeN
    rw [h2]
    simp only
    rw [if_pos hfit]
    rfl
   ·rw [List.getElem?_set_self hlb]
   ·rw [GV hfit, Nat.zero_add]
    have e1 : (cs.take (xs.length * sz)).length = xs.length * sz := h4.2.1
    have e2 : (cs.take (xs.length * sz) ++ news).length = (xs ++ ys).length * sz := (h4.2.app hn).1
    refine ⟨by rw [← e2, List.length_append (bs := List.drop _ _)]; exact Nat.le_add_right _ _, ?_⟩
    rw [List.take_append_of_le_length (by rw [e2]; exact Nat.le_refl _), List.take_of_length_le (by rw [e2]; exact Nat.le_refl _)]
    exact h4.2.app hn
   ·rw [List.getElem?_set_ne (fun h => hne h.symm)]
 ·rw [if_neg hc, if_pos hb, h2]
  have hl : H.loadN b 0 (xs.length * sz) = some (cs.take (xs.length * sz)) := by
   unfold Heap.loadN
   rw [h2]
   simp only
   rw [if_pos (by have := h4.1; omega)]
   simp
  rw [hl]
  simp only
  have hcell := h4.2.app hn
  have fin : ∀ (H1 : Heap), H1.length = H.length → Fr b H H1 → ∃ v' b' H', some (V.slc H.length 0 (xs.length + ys.length) (xs.length + ys.length) false sz, H1 ++ [Blk.row (cs.take (xs.length * sz) ++ news) true]) = some (v', H') ∧ Own sz R H' b' v' (xs ++ ys) ∧ Fr b H H' ∧ (b' = b ∨ H.length ≤ b') := by
   intro H1 hl1 hf
   refine ⟨_, H.length, _, rfl, ?_, ⟨by simp [hl1], fun b' hb' hne => ?_⟩, .inr (Nat.le_refl _)⟩
   ·have := JP (t := false) H1 hcell
    rw [hl1, List.length_append] at this
    exact this
   ·rw [List.getElem?_append_left (by omega)]
    exact hf.2 b' hb' hne
  cases t with
  | true => rw [if_pos rfl]; exact fin H rfl (Fr.refl _ _)
  | false =>
   simp only [Bool.false_eq_true, if_false, if_true]
   exact fin (H.set b .dead) (by simp) ⟨by simp, fun b' hb' hne => by rw [List.getElem?_set_ne (fun h => hne h.symm)]⟩
def Tt (sz : Nat) (R : List V → α → Prop) (H : Heap) (v : V) (xs ms : List α) : Prop :=
 ∃ b cap t cs wr, v = .slc b 0 xs.length cap t sz ∧ (xs ++ ms).length ≤ cap ∧ H[b]? = some (.row cs wr) ∧ At0 sz R cs (xs ++ ms)
theorem Tt.pre {sz : Nat} {R : List V → α → Prop} {H H' : Heap} {v : V} {xs ms : List α} (hp : H <+: H') (h : Tt sz R H v xs ms) : Tt sz R H' v xs ms := by
 obtain ⟨b, cap, t, cs, wr, h0, h1, h2, h3⟩ := h
 obtain ⟨l, rfl⟩ := hp
 exact ⟨b, cap, t, cs, wr, h0, h1, by rw [List.getElem?_append_left (List.getElem?_eq_some_iff.1 h2).1]; exact h2, h3⟩
theorem At0.take {sz : Nat} {R : List V → α → Prop} {cs : List V} {xs ms : List α} (h : At0 sz R cs (xs ++ ms)) : At0 sz R cs xs := by
 have hl : xs.length * sz ≤ (xs ++ ms).length * sz := Nat.mul_le_mul_right _ (by simp)
 have h1 := h.1
 refine ⟨by omega, ?_⟩
 have := h.2.take xs.length (by simp)
 rw [List.take_take, Nat.min_eq_left hl, List.take_left] at this
 exact this
theorem Tt.sl {sz : Nat} {R : List V → α → Prop} {H : Heap} {v : V} {xs ms : List α} (h : Tt sz R H v xs ms) : Sl sz R H v xs := by
 obtain ⟨b, cap, t, cs, wr, rfl, h1, h2, h3⟩ := h
 have h4 := h3.take
 rw [List.length_append] at h1
 refine .inr ⟨b, 0, cap, t, cs, wr, rfl, by omega, h2, by have := h4.1; omega, fun k x hk => ?_⟩
 rw [Nat.zero_add]
 exact h4.cell hk
theorem Tt.full {sz : Nat} {R : List V → α → Prop} {H : Heap} {v : V} {xs ms : List α} (h : Tt sz R H v xs ms) {n : Int} (hn : n = ((xs ++ ms).length : Int)) : ∃ u, sliceV sz v none (some (.int .i64 n)) none = some u ∧ Sl sz R H u (xs ++ ms) := by
 subst hn
 obtain ⟨b, cap, t, cs, wr, rfl, h1, h2, h3⟩ := h
 refine ⟨.slc b 0 (xs ++ ms).length cap t sz, ?_, .inr ⟨b, 0, cap, t, cs, wr, rfl, h1, h2, by have := h3.1; omega, fun k x hk => ?_⟩⟩
 ·simp only [sliceV, boundV, Option.isSome_none, Bool.false_and, Bool.false_eq_true, if_false, ne_eq, not_true_eq_false]
  rw [if_pos (by omega)]
  simp
  omega
 ·rw [Nat.zero_add]
  exact h3.cell hk
end Go.Proofs.YtncjbjlmgnjhiaaGreat.VM
