/- THE SMALL MACHINE, part L: a statement whose order Go leaves open, in whatever order. -/
import Derived.Test.YtjageapgbpdlhaaVmK
namespace Go.Proofs.Ytjageapgbpdlhaa.VM
open Go
set_option linter.unusedVariables false
set_option linter.unusedSimpArgs false
set_option linter.unusedSectionVars false

variable {P : Program} {T : Tab} {ops : Array Oper} {E : Nat → Env} {Hs : Nat → Heap}

def Lst (listed : Array Bool) (k : Nat) : Prop := listed.getD k false = true

/-- the two machines amid such a statement: some operations are done, others not -/
structure Mid (P : Program) (T : Tab) (ops : Array Oper) (E : Nat → Env) (Hs : Nat → Heap) (μ0 : Mu) (w0 : World) (listed : Array Bool) (a : Act) (w : World) (μ : Mu) (lo hi : Nat) : Prop where
  lohi : lo ≤ hi
  hin : hi ≤ ops.size
  quiet : ∀ j, lo ≤ j → j < hi → Hs j <+: Hs (j + 1)
  done : ∀ (j : Nat) o, ops[j]? = some o → touches o.op = true → j < lo → Lst listed j ∨ lateAt ops j = true
  todo : ∀ (j : Nat) o, ops[j]? = some o → touches o.op = true → hi ≤ j → ¬ Lst listed j
  sim : Sim μ (Hs hi) w
  dom : ∀ b x, μ b = some x → b < (Hs lo).length ∨ ∃ j, Lst listed j ∧ lo ≤ j ∧ j < hi ∧ (Hs j).length ≤ b ∧ b < (Hs (j + 1)).length
  wf : ∀ b x cs wr, μ b = some x → (Hs hi)[b]? = some (.row cs wr) → ∀ m, lo ≤ m → m ≤ hi → b < (Hs m).length → ∀ (i : Nat) v, cs[i]? = some v → ∀ cv, VR μ v cv → VR (μ.cut (Hs m).length) v cv
  vals : ∀ t, t < (E 0).length → ∃ k', k' ≤ ops.size ∧ (k' = 0 ∨ ∃ o, ops[k' - 1]? = some o ∧ o.dst = some t) ∧ (∀ (i : Nat) o, ops[i]? = some o → o.dst = some t → (Lst listed i ↔ i < k')) ∧
    ∃ v cv, (E k')[t]? = some v ∧ a.tmps[t]? = some cv ∧ VR (μ.cut (Hs k').length) v cv
  tr : Tr μ0 (Hs 0) w0 μ (Hs hi) w

structure Inv (P : Program) (T : Tab) (ops : Array Oper) (E : Nat → Env) (Hs : Nat → Heap) (μ0 : Mu) (w0 : World) (listed : Array Bool) (a : Act) (w : World) : Prop where
  size : listed.size = ops.size
  closed : Closed ops (Lst listed)
  tmps : a.tmps.size = (E 0).length
  defers : a.defers = []
  mid : ∃ μ lo hi, Mid P T ops E Hs μ0 w0 listed a w μ lo hi

theorem quiet_prefix {lo hi : Nat} (h : ∀ j, lo ≤ j → j < hi → Hs j <+: Hs (j + 1)) : ∀ {j k : Nat}, lo ≤ j → j ≤ k → k ≤ hi → Hs j <+: Hs k := by
  intro j k hl hjk hk
  induction k with
  | zero => obtain rfl : j = 0 := by omega
            exact List.prefix_refl _
  | succ k ih =>
    by_cases hj : j = k + 1
    · subst hj; exact List.prefix_refl _
    · exact (ih (by omega) (by omega)).trans (h k (by omega) (by omega))

theorem cut_all {μ : Mu} {H : Heap} {w : World} (s : Sim μ H w) : Mu.Le μ (μ.cut H.length) := fun b x hx => by
  rw [Mu.cut_lt (s.lt b x hx).1]; exact hx

theorem Tr.longer {μ μ' : Mu} {H H' H'' : Heap} {w w' : World} (t : Tr μ H w μ' H' w') (h : H' <+: H'') : Tr μ H w μ' H'' w' := by
  refine ⟨t.ext, fun b x hx hn => ?_, fun b k hk => ?_, t.size, t.frame, t.os, t.tape, t.output⟩
  · obtain ⟨h1, h2⟩ := t.fresh b x hx hn
    refine ⟨h1, h2.imp id ?_⟩
    rintro ⟨b0, x0, k, e1, e2, e3, e4, e5⟩
    have hlt : b0 < H'.length := (List.getElem?_eq_some_iff.1 e5).1
    exact ⟨b0, x0, k, e1, e2, e3, e4, by rw [prefix_get h hlt]; exact e5⟩
  · obtain ⟨k', h1, h2⟩ := t.stay b k hk
    have hlt : b < H'.length := (List.getElem?_eq_some_iff.1 h1).1
    exact ⟨k', by rw [prefix_get h hlt]; exact h1, h2⟩

theorem Lst.set {listed : Array Bool} {k j : Nat} (hk : k < listed.size) : Lst (listed.setIfInBounds k true) j ↔ (j = k ∨ Lst listed j) := by
  unfold Lst
  by_cases h : k = j
  · subst h; simp [hk]
  · rw [getD_set_ne false h]
    constructor
    · exact .inr
    · rintro (h' | h')
      · exact absurd h'.symm h
      · exact h'

section
variable (r : Run P T ops E Hs) (ok : drawOk ops = true) {μ0 : Mu} {w0 : World} {listed : Array Bool} {a : Act} {w : World} {μ : Mu} {lo hi k : Nat} {o : Oper}
include r

/-- the segment reaches as far as the operation that comes next, if it is a quiet one -/
theorem Mid.reach (m : Mid P T ops E Hs μ0 w0 listed a w μ lo hi) (cl : Closed ops (Lst listed)) (ho : ops[k]? = some o) (ht : touches o.op = true) (hnl : ¬ Lst listed k) (hr : Ready ops (Lst listed) k) (hq : Hs k <+: Hs (k + 1)) (hlt : lateAt ops k = true → lo ≤ k) :
    ∃ hi', lo ≤ k ∧ k < hi' ∧ Mid P T ops E Hs μ0 w0 listed a w μ lo hi' := by
  have hlo : lo ≤ k := by
    apply Nat.le_of_not_lt
    intro h
    rcases m.done k o ho ht h with h' | h'
    · exact hnl h'
    · have := hlt h'; omega
  have hks : k < ops.size := (Array.getElem?_eq_some_iff.1 ho).1
  by_cases hk : k < hi
  · exact ⟨hi, hlo, hk, m⟩
  · have hq' : ∀ j, lo ≤ j → j < k + 1 → Hs j <+: Hs (j + 1) := fun j hj hj' => by
      by_cases hjh : j < hi
      · exact m.quiet j hj hjh
      · by_cases hjk : j = k
        · subst hjk; exact hq
        · by_cases hp : Hs j <+: Hs (j + 1)
          · exact hp
          · exfalso
            obtain ⟨oj, hoj⟩ : ∃ o, ops[j]? = some o := ⟨ops[j]'(by omega), by simp⟩
            obtain ⟨h1, h2⟩ := r.loud hoj hp
            have := anc_good cl (.inr hr) (barrier_gt h2 ho ht (by omega))
            exact m.todo j oj hoj h1 (by omega) this
    have hpre : Hs hi <+: Hs (k + 1) := quiet_prefix hq' m.lohi (by omega) (Nat.le_refl _)
    refine ⟨k + 1, hlo, Nat.lt_succ_self _, ⟨by omega, by omega, hq', m.done, fun j o' ho' ht' hj => m.todo j o' ho' ht' (by omega), m.sim.longer hpre, fun b x hx => ?_, fun b x cs wr hx hb mm h1 h2 hbm i v hiv cv hv => ?_, m.vals, m.tr.longer hpre⟩⟩
    · rcases m.dom b x hx with h | ⟨j, h1, h2, h3, h4⟩
      · exact .inl h
      · exact .inr ⟨j, h1, h2, by omega, h4⟩
    · have hblt := (m.sim.lt b x hx).1
      rw [prefix_get hpre hblt] at hb
      by_cases hm : mm ≤ hi
      · exact m.wf b x cs wr hx hb mm h1 hm hbm i v hiv cv hv
      · exact (m.wf b x cs wr hx hb hi m.lohi (Nat.le_refl _) hblt i v hiv cv hv).mono (Mu.cut_mono ((quiet_prefix hq' m.lohi (by omega : hi ≤ mm) h2).length_le))

/-- whoever writes what an operation looks at, or writes, has done so if it stands ahead, and has not if it stands behind -/
theorem writers (ok : drawOk ops = true) (cl : Closed ops (Lst listed)) (ho : ops[k]? = some o) (hnl : ¬ Lst listed k) (hr : Ready ops (Lst listed) k) {t : Nat} (ht : t ∈ looksAt ops o ∨ o.dst = some t) {i : Nat} {oi : Oper} (hi : ops[i]? = some oi) (hd : oi.dst = some t) (hne : i ≠ k) : Lst listed i ↔ i < k := by
  rcases Nat.lt_or_gt_of_ne hne with h | h
  · refine ⟨fun _ => h, fun _ => ?_⟩
    refine anc_good cl (.inr hr) (drawOk_clash ok hi ho h ?_)
    rcases ht with ht | ht
    · simp [clash, hd, ht]
    · simp [clash, hd, ht]
  · refine ⟨fun hl => ?_, fun h' => absurd h' (by omega)⟩
    exfalso
    refine hnl (anc_good cl (.inl hl) (drawOk_clash ok ho hi h ?_))
    rcases ht with ht | ht
    · simp [clash, hd, ht]
    · simp [clash, hd, ht]

/-- what an operation looks at is what it would be in the text's order -/
theorem Mid.look (ok : drawOk ops = true) (m : Mid P T ops E Hs μ0 w0 listed a w μ lo hi) (cl : Closed ops (Lst listed)) (ho : ops[k]? = some o) (hnl : ¬ Lst listed k) (hr : Ready ops (Lst listed) k) {t : Nat} (htl : t < (E 0).length) (ht : t ∈ looksAt ops o ∨ o.dst = some t) :
    ∃ v cv, (E k)[t]? = some v ∧ a.tmps[t]? = some cv ∧ VR (μ.cut (Hs k).length) v cv := by
  have hks : k < ops.size := (Array.getElem?_eq_some_iff.1 ho).1
  obtain ⟨k', h1, h2, h3, v, cv, h4, h5, h6⟩ := m.vals t htl
  have hle : k' ≤ k := by
    apply Nat.le_of_not_lt
    intro hlt
    rcases h2 with h2 | ⟨o', ho', hd'⟩
    · omega
    · have hl := (h3 _ o' ho' hd').2 (by omega)
      by_cases he : k' - 1 = k
      · rw [he] at hl; exact hnl hl
      · have := (writers r ok cl ho hnl hr ht ho' hd' he).1 hl
        omega
  refine ⟨v, cv, ?_, h5, h6.mono (Mu.cut_mono (r.mono hle (by omega)))⟩
  rw [r.same hle (by omega) (fun i oi hi hi1 hi2 hd => ?_)]
  · exact h4
  · have := (writers r ok cl ho hnl hr ht hi hd (by omega)).2 hi2
    have := (h3 i oi hi hd).1 this
    omega

theorem Mid.looks (ok : drawOk ops = true) (m : Mid P T ops E Hs μ0 w0 listed a w μ lo hi) (cl : Closed ops (Lst listed)) (ho : ops[k]? = some o) (hnl : ¬ Lst listed k) (hr : Ready ops (Lst listed) k) : Looks (μ.cut (Hs k).length) (E k) a o.op := fun x hx v hv => by
  have hks : k < ops.size := (Array.getElem?_eq_some_iff.1 ho).1
  cases x with
  | tmp t =>
    simp only [Env.ev] at hv
    have htl : t < (E 0).length := by rw [← r.len (by omega : k ≤ ops.size)]; exact (List.getElem?_eq_some_iff.1 hv).1
    obtain ⟨v', cv, h1, h2, h3⟩ := m.look r ok cl ho hnl hr htl (.inl (List.mem_append_left _ (List.mem_filterMap.2 ⟨.tmp t, by simpa using hx, rfl⟩)))
    rw [hv] at h1
    obtain rfl := Option.some.inj h1
    simp only [Act.eval, Array.getD_eq_getD_getElem?, h2, Option.getD_some]
    exact h3
  | const c => exact VR.of_const c hv
  | func f =>
    simp only [Env.ev, Option.some.injEq] at hv
    subst hv
    simp only [VR, Act.eval]
    exact ⟨#[], rfl, by simp [VRs]⟩
  | global g => simp [Env.ev] at hv

theorem Mid.guard (ok : drawOk ops = true) (m : Mid P T ops E Hs μ0 w0 listed a w μ lo hi) (ta : a.tmps.size = (E 0).length) (cl : Closed ops (Lst listed)) (ho : ops[k]? = some o) (hnl : ¬ Lst listed k) (hr : Ready ops (Lst listed) k) : Region.wanted o (yielded ops a.tmps) = guardOf ops (E k) o := by
  have hks : k < ops.size := (Array.getElem?_eq_some_iff.1 ho).1
  by_cases hh : ∃ t, guardTmp ops o = some t ∧ (E 0).length ≤ t
  · obtain ⟨t, ht, hge⟩ := hh
    unfold guardTmp at ht
    unfold Region.wanted guardOf
    cases hg : o.guard with
    | none => rfl
    | some jw =>
      obtain ⟨j, want⟩ := jw
      rw [hg] at ht
      simp only at ht ⊢
      unfold yielded
      rw [ht]
      simp only [Option.bind_some]
      rw [List.getElem?_eq_none (by rw [r.len (by omega)]; exact hge), Array.getElem?_eq_none (by omega)]
      rfl
  · refine guard_sim (μ := μ.cut (Hs k).length) fun t ht => ?_
    have hl : t < (E 0).length := by
      apply Nat.lt_of_not_le
      intro hge
      exact hh ⟨t, ht, hge⟩
    exact m.look r ok cl ho hnl hr hl (.inl (List.mem_append_right _ (by simp [ht])))

end

/-- the temporaries behind an operation -/
theorem vals_next (r : Run P T ops E Hs) (ok : drawOk ops = true) {listed : Array Bool} {a : Act} {μ μ' : Mu} {k : Nat} {o : Oper} {v : V} {cv : Value} (hsz : listed.size = ops.size) (cl : Closed ops (Lst listed)) (ho : ops[k]? = some o) (hnl : ¬ Lst listed k) (hr : Ready ops (Lst listed) k) (hE : E (k + 1) = (E k).put o.dst v) (ta : a.tmps.size = (E 0).length)
    (hμ : Mu.Le μ μ') (hv : VR (μ'.cut (Hs (k + 1)).length) v cv)
    (vals : ∀ t, t < (E 0).length → ∃ k', k' ≤ ops.size ∧ (k' = 0 ∨ ∃ o, ops[k' - 1]? = some o ∧ o.dst = some t) ∧ (∀ (i : Nat) o, ops[i]? = some o → o.dst = some t → (Lst listed i ↔ i < k')) ∧
      ∃ v cv, (E k')[t]? = some v ∧ a.tmps[t]? = some cv ∧ VR (μ.cut (Hs k').length) v cv) :
    ∀ t, t < (E 0).length → ∃ k', k' ≤ ops.size ∧ (k' = 0 ∨ ∃ o, ops[k' - 1]? = some o ∧ o.dst = some t) ∧ (∀ (i : Nat) o, ops[i]? = some o → o.dst = some t → (Lst (listed.setIfInBounds k true) i ↔ i < k')) ∧
      ∃ v cv', (E k')[t]? = some v ∧ (a.put o.dst cv).tmps[t]? = some cv' ∧ VR (μ'.cut (Hs k').length) v cv' := by
  intro t ht
  have hks : k < ops.size := (Array.getElem?_eq_some_iff.1 ho).1
  have hkl : k < listed.size := by omega
  by_cases hd : o.dst = some t
  · refine ⟨k + 1, by omega, .inr ⟨o, by simpa using ho, hd⟩, fun i oi hi hdi => ?_, v, cv, ?_, ?_, hv⟩
    · rw [Lst.set hkl]
      by_cases hik : i = k
      · subst hik; simp
      · rw [writers r ok cl ho hnl hr (.inr hd) hi hdi hik]
        constructor
        · rintro (h | h) <;> omega
        · intro h; exact .inr (by omega)
    · rw [hE, hd]
      simp only [Env.put]
      rw [List.getElem?_set_self (by rw [r.len (by omega)]; exact ht)]
    · rw [hd]
      simp only [Act.put]
      rw [Array.getElem?_setIfInBounds_self_of_lt (by omega)]
  · obtain ⟨k', h1, h2, h3, v', cv', h4, h5, h6⟩ := vals t ht
    refine ⟨k', h1, h2, fun i oi hi hdi => ?_, v', cv', h4, ?_, h6.mono (Mu.cut_ext hμ)⟩
    · rw [Lst.set hkl]
      rw [← h3 i oi hi hdi]
      constructor
      · rintro (h | h)
        · subst h
          rw [ho] at hi
          obtain rfl := Option.some.inj hi
          exact absurd hdi hd
        · exact h
      · exact .inr
    · cases hdd : o.dst with
      | none => exact h5
      | some d =>
        simp only [Act.put]
        rw [Array.getElem?_setIfInBounds_ne (fun e => hd (by rw [hdd, e]))]
        exact h5

theorem closed_next {listed : Array Bool} {k : Nat} (hkl : k < listed.size) (cl : Closed ops (Lst listed)) (hr : Ready ops (Lst listed) k) : Closed ops (Lst (listed.setIfInBounds k true)) := fun j o ho hj e he hb => by
  rw [Lst.set hkl] at hj ⊢
  rcases hj with rfl | hj
  · exact .inr (hr o ho e he hb)
  · exact .inr (cl j o ho hj e he hb)

end Go.Proofs.Ytjageapgbpdlhaa.VM
