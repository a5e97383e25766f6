/- THE SMALL MACHINE, part K: a statement whose order Go leaves open. -/
import Derived.Test.YtjageapgbpdlhaaVmJ
import Derived.Orders
namespace Go.Proofs.Ytjageapgbpdlhaa.VM
open Go
set_option linter.unusedVariables false
set_option linter.unusedSimpArgs false

/-- for each operation the ones ahead of it, as bits -/
def ancStep (acc : List Nat) (o : Oper) : Nat :=
  o.after.toList.foldl (fun m e => if Region.binds .any e then m ||| 2 ^ e.on ||| acc.getD e.on 0 else m) 0
def ancs : List Oper → List Nat → List Nat
  | [], acc => acc
  | o :: os, acc => ancs os (acc ++ [ancStep acc o])
def anc (ops : Array Oper) (k : Nat) : Nat := (ancs ops.toList []).getD k 0

def looksAt (ops : Array Oper) (o : Oper) : List Nat :=
  (o.op.operands.toList.filterMap fun | .tmp t => some t | _ => none) ++ (guardTmp ops o).toList

def clash (ops : Array Oper) (x y : Oper) : Bool :=
  (match x.dst with | some d => (looksAt ops y).contains d || y.dst == some d | none => false) ||
  (match y.dst with | some d => (looksAt ops x).contains d | none => false)

/-- each edge leads back; whoever clashes stands in a row -/
def drawOk (ops : Array Oper) : Bool :=
  let a := ancs ops.toList []
  ops.toList.zipIdx.all fun (y, k) =>
    y.after.toList.all (fun e => !Region.binds .any e || decide (e.on < k)) &&
    ops.toList.zipIdx.all fun (x, j) => !(decide (j < k) && clash ops x y) || (a.getD k 0).testBit j

def isLoad : Op → Bool
  | .load .. => true
  | _ => false
def isStore : Op → Bool
  | .store .. => true
  | _ => false

/-- a load that a store behind it need not wait for -/
def lateAt (ops : Array Oper) (j : Nat) : Bool :=
  let a := ancs ops.toList []
  (match ops[j]? with | some o => isLoad o.op | none => false) && ops.toList.zipIdx.any fun (x, s) => decide (j < s) && isStore x.op && !(a.getD s 0).testBit j

/-- all that may come to memory stands in a row with it, but for late loads ahead of it -/
def barrier (ops : Array Oper) (k : Nat) : Bool :=
  let a := ancs ops.toList []
  ops.toList.zipIdx.all fun (x, j) => !touches x.op || decide (j = k) || (if j < k then (a.getD k 0).testBit j || lateAt ops j else (a.getD j 0).testBit k)

section
variable {P : Program} {T : Tab} {ops : Array Oper}

theorem fold_bit (acc : List Nat) (j : Nat) : ∀ (l : List Edge) (m : Nat), (l.foldl (fun m e => if Region.binds .any e then m ||| 2 ^ e.on ||| acc.getD e.on 0 else m) m).testBit j = true →
    m.testBit j = true ∨ ∃ e ∈ l, Region.binds .any e = true ∧ (e.on = j ∨ (acc.getD e.on 0).testBit j = true)
  | [], m, h => .inl h
  | e :: l, m, h => by
    simp only [List.foldl_cons] at h
    rcases fold_bit acc j l _ h with h1 | ⟨e', he, hb, hj⟩
    · split at h1
      · rename_i hb
        rw [Nat.testBit_or, Nat.testBit_or, Bool.or_eq_true, Bool.or_eq_true] at h1
        rcases h1 with (h1 | h1) | h1
        · exact .inl h1
        · rw [Nat.testBit_two_pow] at h1
          exact .inr ⟨e, by simp, hb, .inl (by simpa using h1)⟩
        · exact .inr ⟨e, by simp, hb, .inr h1⟩
      · exact .inl h1
    · exact .inr ⟨e', by simp [he], hb, hj⟩

def Closed (ops : Array Oper) (X : Nat → Prop) : Prop := ∀ (k : Nat) o, ops[k]? = some o → X k → ∀ e ∈ o.after, Region.binds .any e = true → X e.on
def Ready (ops : Array Oper) (X : Nat → Prop) (k : Nat) : Prop := ∀ o, ops[k]? = some o → ∀ e ∈ o.after, Region.binds .any e = true → X e.on

theorem ancs_good {X : Nat → Prop} (hX : Closed ops X) : ∀ (os : List Oper) (acc : List Nat), (∀ i, os[i]? = ops[acc.length + i]?) →
    (∀ k m, acc[k]? = some m → (X k ∨ Ready ops X k) → ∀ j, m.testBit j = true → X j) →
    ∀ k m, (ancs os acc)[k]? = some m → (X k ∨ Ready ops X k) → ∀ j, m.testBit j = true → X j
  | [], acc, _, h => h
  | o :: os, acc, hos, h => by
    simp only [ancs]
    refine ancs_good hX os _ (fun i => ?_) (fun k m hk hr j hj => ?_)
    · have := hos (i + 1)
      simp only [List.getElem?_cons_succ] at this
      rw [this]
      simp only [List.length_append, List.length_cons, List.length_nil]
      congr 1; omega
    · by_cases hlt : k < acc.length
      · rw [List.getElem?_append_left hlt] at hk
        exact h k m hk hr j hj
      · rw [List.getElem?_append_right (by omega)] at hk
        have hk0 : k - acc.length = 0 := by
          apply Nat.eq_zero_of_le_zero
          apply Nat.le_of_not_lt
          intro h1
          rw [List.getElem?_eq_none (by simp; omega)] at hk
          cases hk
        rw [hk0] at hk
        simp only [List.getElem?_cons_zero, Option.some.injEq] at hk
        subst hk
        have hok : ops[k]? = some o := by
          have := hos 0
          simp only [List.getElem?_cons_zero, Nat.add_zero] at this
          rw [show k = acc.length by omega]
          exact this.symm
        rcases fold_bit acc j _ _ hj with h0 | ⟨e, he, hb, hej⟩
        · simp at h0
        · have heX : X e.on := by
            rcases hr with hr | hr
            · exact hX k o hok hr e (by simpa using he) hb
            · exact hr o hok e (by simpa using he) hb
          rcases hej with rfl | hej
          · exact heX
          · cases hg : acc[e.on]? with
            | none => simp [List.getD_eq_getElem?_getD, hg] at hej
            | some m' =>
              simp only [List.getD_eq_getElem?_getD, hg, Option.getD_some] at hej
              exact h e.on m' hg (.inl heX) j hej

theorem anc_good {X : Nat → Prop} (hX : Closed ops X) {k j : Nat} (hr : X k ∨ Ready ops X k) (h : (anc ops k).testBit j = true) : X j := by
  unfold anc at h
  cases hg : (ancs ops.toList [])[k]? with
  | none => simp [List.getD_eq_getElem?_getD, hg] at h
  | some m =>
    simp only [List.getD_eq_getElem?_getD, hg, Option.getD_some] at h
    exact ancs_good hX ops.toList [] (fun i => by simp) (fun k m hk => by simp at hk) k m hg hr j h

theorem drawOk_edge (h : drawOk ops = true) {k : Nat} {o : Oper} (ho : ops[k]? = some o) {e : Edge} (he : e ∈ o.after) (hb : Region.binds .any e = true) : e.on < k := by
  simp only [drawOk, List.all_eq_true, Bool.and_eq_true] at h
  have hm : (o, k) ∈ ops.toList.zipIdx := by rw [List.mem_zipIdx_iff_getElem?]; simpa using ho
  have h1 := (h (o, k) hm).1 e (by simpa using he)
  simpa [hb] using h1

theorem drawOk_clash (h : drawOk ops = true) {j k : Nat} {x y : Oper} (hx : ops[j]? = some x) (hy : ops[k]? = some y) (hjk : j < k) (hc : clash ops x y = true) : (anc ops k).testBit j = true := by
  simp only [drawOk, List.all_eq_true, Bool.and_eq_true] at h
  have hm : (y, k) ∈ ops.toList.zipIdx := by rw [List.mem_zipIdx_iff_getElem?]; simpa using hy
  have hm' : (x, j) ∈ ops.toList.zipIdx := by rw [List.mem_zipIdx_iff_getElem?]; simpa using hx
  have h1 := (h (y, k) hm).2 (x, j) hm'
  simpa [hjk, hc, anc] using h1

theorem barrier_lt {k : Nat} (h : barrier ops k = true) {j : Nat} {x : Oper} (hx : ops[j]? = some x) (ht : touches x.op = true) (hj : j < k) : (anc ops k).testBit j = true ∨ lateAt ops j = true := by
  simp only [barrier, List.all_eq_true] at h
  have hm' : (x, j) ∈ ops.toList.zipIdx := by rw [List.mem_zipIdx_iff_getElem?]; simpa using hx
  have h1 := h (x, j) hm'
  simpa [ht, hj, Nat.ne_of_lt hj, anc] using h1
theorem barrier_gt {k : Nat} (h : barrier ops k = true) {j : Nat} {x : Oper} (hx : ops[j]? = some x) (ht : touches x.op = true) (hj : k < j) : (anc ops j).testBit k = true := by
  simp only [barrier, List.all_eq_true] at h
  have hm' : (x, j) ∈ ops.toList.zipIdx := by rw [List.mem_zipIdx_iff_getElem?]; simpa using hx
  have h1 := h (x, j) hm'
  simpa [ht, Nat.lt_asymm hj, Nat.ne_of_gt hj, anc] using h1

mutual
/-- a value whose blocks are numbered below n -/
def V.under (n : Nat) : V → Bool
  | .ptr b _ => decide (b < n)
  | .slc b .. => decide (b < n)
  | .map b => decide (b < n)
  | .fn _ cs => V.unders n cs
  | .agg cs => V.unders n cs
  | .tup vs => V.unders n vs
  | _ => true
def V.unders (n : Nat) : List V → Bool
  | [] => true
  | v :: vs => V.under n v && V.unders n vs
end

/-- the run in the order of the text -/
structure Run (P : Program) (T : Tab) (ops : Array Oper) (E : Nat → Env) (Hs : Nat → Heap) : Prop where
  step : ∀ (k : Nat) o, ops[k]? = some o →
    (guardOf ops (E k) o = true ∧ ∃ v, Step P T (E k) (Hs k) o.op v (Hs (k + 1)) ∧ E (k + 1) = (E k).put o.dst v ∧ (Hs k).length ≤ (Hs (k + 1)).length ∧ (Hs k <+: Hs (k + 1) ∨ barrier ops k = true)) ∨
    (guardOf ops (E k) o = false ∧ E (k + 1) = (E k).put o.dst V.undef ∧ Hs (k + 1) = Hs k)
  late : ∀ (k : Nat) o, ops[k]? = some o → lateAt ops k = true → guardOf ops (E k) o = true →
    ∃ v, E (k + 1) = (E k).put o.dst v ∧ v.under (Hs (k + 1)).length = true ∧ ∀ m, k ≤ m → m ≤ ops.size → memOp T (E k).ev (Hs m) o.op = some (v, Hs m)

theorem Env.put_length (e : Env) (d : Option Nat) (v : V) : (e.put d v).length = e.length := by
  cases d <;> simp [Env.put]
theorem Env.put_other {e : Env} {d : Option Nat} {v : V} {t : Nat} (h : d ≠ some t) : (e.put d v)[t]? = e[t]? := by
  cases d with
  | none => rfl
  | some d => simp only [Env.put]; rw [List.getElem?_set_ne (fun e => h (by rw [e]))]

variable {E : Nat → Env} {Hs : Nat → Heap}

theorem Run.len (r : Run P T ops E Hs) {k : Nat} (hk : k ≤ ops.size) : (E k).length = (E 0).length := by
  induction k with
  | zero => rfl
  | succ k ih =>
    obtain ⟨o, ho⟩ : ∃ o, ops[k]? = some o := ⟨ops[k], by simp [Nat.lt_of_succ_le hk]⟩
    rcases r.step k o ho with ⟨_, v, _, h, _⟩ | ⟨_, h, _⟩ <;> rw [h, Env.put_length, ih (by omega)]

theorem Run.mono (r : Run P T ops E Hs) {j k : Nat} (hjk : j ≤ k) (hk : k ≤ ops.size) : (Hs j).length ≤ (Hs k).length := by
  induction k with
  | zero => obtain rfl : j = 0 := by omega
            exact Nat.le_refl _
  | succ k ih =>
    by_cases h : j = k + 1
    · subst h; exact Nat.le_refl _
    · refine Nat.le_trans (ih (by omega) (by omega)) ?_
      obtain ⟨o, ho⟩ : ∃ o, ops[k]? = some o := ⟨ops[k], by simp [Nat.lt_of_succ_le hk]⟩
      rcases r.step k o ho with ⟨_, v, _, _, h, _⟩ | ⟨_, _, h⟩
      · exact h
      · rw [h]; exact Nat.le_refl _

/-- a temporary that nobody writes from one step to another -/
theorem Run.same (r : Run P T ops E Hs) {t j k : Nat} (hjk : j ≤ k) (hk : k ≤ ops.size) (h : ∀ (i : Nat) o, ops[i]? = some o → j ≤ i → i < k → o.dst ≠ some t) : (E k)[t]? = (E j)[t]? := by
  induction k with
  | zero => obtain rfl : j = 0 := by omega
            rfl
  | succ k ih =>
    by_cases hj : j = k + 1
    · subst hj; rfl
    · obtain ⟨o, ho⟩ : ∃ o, ops[k]? = some o := ⟨ops[k], by simp [Nat.lt_of_succ_le hk]⟩
      have hd := h k o ho (by omega) (by omega)
      rw [← ih (by omega) (by omega) (fun i o hi h1 h2 => h i o hi h1 (by omega))]
      rcases r.step k o ho with ⟨_, v, _, h, _⟩ | ⟨_, h, _⟩ <;> rw [h, Env.put_other hd]

theorem Step.pure_same {e : Env} {h h' : Heap} {o : Op} {v : V} (st : Step P T e h o v h') (ht : touches o = false) : pureOp T e.ev o = some v ∧ h' = h := by
  rcases st with hp | hm | ⟨f, xs, ts, g, caps, vs, ho, _⟩
  · exact hp
  · have := mem_touches hm; rw [ht] at this; cases this
  · subst ho; simp [touches] at ht

theorem Run.still (r : Run P T ops E Hs) {k : Nat} {o : Oper} (ho : ops[k]? = some o) (ht : touches o.op = false) : Hs (k + 1) = Hs k := by
  rcases r.step k o ho with ⟨_, v, h, _⟩ | ⟨_, _, h⟩
  · exact (h.pure_same ht).2
  · exact h

theorem Run.loud (r : Run P T ops E Hs) {k : Nat} {o : Oper} (ho : ops[k]? = some o) (hn : ¬ Hs k <+: Hs (k + 1)) : touches o.op = true ∧ barrier ops k = true := by
  rcases r.step k o ho with ⟨_, v, h, _, _, h2⟩ | ⟨_, _, h⟩
  · refine ⟨?_, h2.resolve_left hn⟩
    cases ht : touches o.op with
    | true => rfl
    | false => exact absurd (by rw [(h.pure_same ht).2]; exact List.prefix_refl _) hn
  · exact absurd (by rw [h]; exact List.prefix_refl _) hn

def Mu.cut (μ : Mu) (n : Nat) : Mu := fun b => if b < n then μ b else none
theorem Mu.cut_le (μ : Mu) (n : Nat) : Mu.Le (μ.cut n) μ := fun b x h => by
  unfold Mu.cut at h; split at h
  · exact h
  · cases h
theorem Mu.cut_mono {μ : Mu} {m n : Nat} (h : m ≤ n) : Mu.Le (μ.cut m) (μ.cut n) := fun b x hx => by
  unfold Mu.cut at hx ⊢; split at hx
  · rw [if_pos (by omega)]; exact hx
  · cases hx
theorem Mu.cut_some {μ : Mu} {n b : Nat} {x : Loc} (h : μ.cut n b = some x) : b < n ∧ μ b = some x := by
  unfold Mu.cut at h; split at h
  · rename_i hb; exact ⟨hb, h⟩
  · cases h
theorem Mu.cut_lt {μ : Mu} {n b : Nat} (h : b < n) : μ.cut n b = μ b := by unfold Mu.cut; rw [if_pos h]
mutual
theorem VR.under {μ : Mu} {n : Nat} : ∀ {v : V} {w : Value}, v.under n = true → VR μ v w → VR (μ.cut n) v w
  | .int .., _, _, h => by simpa only [VR] using h
  | .bool .., _, _, h => by simpa only [VR] using h
  | .str .., _, _, h => by simpa only [VR] using h
  | .nilp, _, _, h => by simpa only [VR] using h
  | .nils, _, _, h => by simpa only [VR] using h
  | .ptr b off, _, hu, h => by
    simp only [V.under, decide_eq_true_eq] at hu
    simp only [VR] at h ⊢
    obtain ⟨x, hx, e⟩ := h
    exact ⟨x, by rw [Mu.cut_lt hu]; exact hx, e⟩
  | .slc b off len cap t sz, _, hu, h => by
    simp only [V.under, decide_eq_true_eq] at hu
    simp only [VR] at h ⊢
    obtain ⟨a, c, h1, h2, h3, h4, h5⟩ := h
    refine ⟨a, c, h1, h2, h3, h4, h5.imp id ?_⟩
    rintro ⟨x, o, hx, hr⟩
    exact ⟨x, o, by rw [Mu.cut_lt hu]; exact hx, hr⟩
  | .map b, _, hu, h => by
    simp only [V.under, decide_eq_true_eq] at hu
    simp only [VR] at h ⊢
    obtain ⟨x, hx, e⟩ := h
    exact ⟨x, by rw [Mu.cut_lt hu]; exact hx, e⟩
  | .fn f cs, _, hu, h => by
    simp only [V.under] at hu
    simp only [VR] at h ⊢
    obtain ⟨cw, e, hc⟩ := h
    exact ⟨cw, e, VRs.under hu hc⟩
  | .agg cs, _, hu, h => by
    simp only [V.under] at hu
    simp only [VR] at h ⊢
    obtain ⟨cw, e, h1, hc⟩ := h
    exact ⟨cw, e, h1, VRs.under hu hc⟩
  | .tup vs, _, hu, h => by
    simp only [V.under] at hu
    simp only [VR] at h ⊢
    obtain ⟨cw, e, hc⟩ := h
    exact ⟨cw, e, VRs.under hu hc⟩
theorem VRs.under {μ : Mu} {n : Nat} : ∀ {vs : List V} {ws : List Value}, V.unders n vs = true → VRs μ vs ws → VRs (μ.cut n) vs ws
  | [], _, _, h => by simpa only [VRs] using h
  | v :: vs, _, hu, h => by
    simp only [V.unders, Bool.and_eq_true] at hu
    simp only [VRs] at h ⊢
    obtain ⟨w, ws', e, h1, h2⟩ := h
    exact ⟨w, ws', e, VR.under hu.1 h1, VRs.under hu.2 h2⟩
end

theorem lateAt_load {j : Nat} {o : Oper} (h : lateAt ops j = true) (ho : ops[j]? = some o) : ∃ t x, o.op = .load t x := by
  simp only [lateAt, ho, Bool.and_eq_true] at h
  have h1 := h.1
  unfold isLoad at h1
  split at h1
  · rename_i t x e; exact ⟨t, x, e⟩
  · cases h1

/-- a load leaves the memory as it was -/
theorem Step.load_same {e : Env} {h h' : Heap} {t : Nat} {x : Operand} {v : V} (st : Step P T e h (.load t x) v h') : memOp T e.ev h (.load t x) = some (v, h) ∧ h' = h := by
  rcases st with ⟨hp, _⟩ | hm | ⟨f, xs, ts, g, caps, vs, ho, _⟩
  · simp [pureOp] at hp
  · have hh : h' = h := by
      have hm' := hm
      simp only [memOp] at hm'
      split at hm'
      · split at hm'
        · simp only [Option.map_eq_some_iff, Prod.mk.injEq] at hm'; obtain ⟨_, _, _, rfl⟩ := hm'; rfl
        · split at hm'
          · simp only [Option.some.injEq, Prod.mk.injEq] at hm'; exact hm'.2.symm
          · cases hm'
      · cases hm'
    exact ⟨by rw [hm, hh], hh⟩
  · cases ho

theorem Mu.cut_ext {μ μ' : Mu} {n : Nat} (h : Mu.Le μ μ') : Mu.Le (μ.cut n) (μ'.cut n) := fun b x hx => by
  obtain ⟨h1, h2⟩ := Mu.cut_some hx
  rw [Mu.cut_lt h1]; exact h _ _ h2

theorem prefix_get {H H' : Heap} (h : H <+: H') {b : Nat} (hb : b < H.length) : H'[b]? = H[b]? := by
  obtain ⟨l, rfl⟩ := h
  rw [List.getElem?_append_left hb]

theorem Sim.longer {μ : Mu} {H H' : Heap} {w : World} (s : Sim μ H w) (h : H <+: H') : Sim μ H' w := by
  have g : ∀ b x k, μ b = some x → H'[b]? = some k → H[b]? = some k := fun b x k hx hk => by
    rw [← prefix_get h (s.lt b x hx).1]; exact hk
  refine ⟨fun b x hx => ⟨Nat.lt_of_lt_of_le (s.lt b x hx).1 h.length_le, (s.lt b x hx).2⟩, ?_, ?_, ?_, ?_, ?_⟩
  · intro b x cs wr hx hb; exact s.row b x cs wr hx (g _ _ _ hx hb)
  · intro b x cs wr hx hb; exact s.ext b x cs wr hx (g _ _ _ hx hb)
  · intro b x cs hx hb; exact s.free b x cs hx (g _ _ _ hx hb)
  · intro b x k hx hb ho b' x' k' hne hx' hb' hd; exact s.sole b x k hx (g _ _ _ hx hb) ho b' x' k' hne hx' (g _ _ _ hx' hb') hd
  · intro b x es hx hb; exact s.mp b x es hx (g _ _ _ hx hb)

theorem Sim.shorter {μ : Mu} {H H' : Heap} {w : World} (s : Sim μ H' w) (h : H <+: H') (hv : ∀ b x cs wr, μ b = some x → b < H.length → H'[b]? = some (.row cs wr) → ∀ (i : Nat) v, cs[i]? = some v → ∀ cv, VR μ v cv → VR (μ.cut H.length) v cv) : Sim (μ.cut H.length) H w := by
  have g : ∀ b x k, μ.cut H.length b = some x → H[b]? = some k → H'[b]? = some k := fun b x k hx hk => by
    rw [prefix_get h (Mu.cut_some hx).1]; exact hk
  refine ⟨fun b x hx => ⟨(Mu.cut_some hx).1, (s.lt b x (Mu.cut_some hx).2).2⟩, ?_, ?_, ?_, ?_, ?_⟩
  · intro b x cs wr hx hb i v hi
    obtain ⟨h1, cv, h2, h3⟩ := s.row b x cs wr (Mu.cut_some hx).2 (g _ _ _ hx hb) i v hi
    exact ⟨h1, cv, h2, hv b x cs wr (Mu.cut_some hx).2 (Mu.cut_some hx).1 (g _ _ _ hx hb) i v hi cv h3⟩
  · intro b x cs wr hx hb; exact s.ext b x cs wr (Mu.cut_some hx).2 (g _ _ _ hx hb)
  · intro b x cs hx hb; exact s.free b x cs (Mu.cut_some hx).2 (g _ _ _ hx hb)
  · intro b x k hx hb ho b' x' k' hne hx' hb' hd; exact s.sole b x k (Mu.cut_some hx).2 (g _ _ _ hx hb) ho b' x' k' hne (Mu.cut_some hx').2 (g _ _ _ hx' hb') hd
  · intro b x es hx hb; exact s.mp b x es (Mu.cut_some hx).2 (g _ _ _ hx hb)

end
end Go.Proofs.Ytjageapgbpdlhaa.VM
