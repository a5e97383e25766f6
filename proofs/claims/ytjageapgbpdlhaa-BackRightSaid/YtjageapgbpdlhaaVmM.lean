/- THE SMALL MACHINE, part M: a statement whose order Go leaves open comes to what it comes to in the text's order. -/
import Derived.Test.YtjageapgbpdlhaaVmL
namespace Go.Proofs.Ytjageapgbpdlhaa.VM
open Go
set_option linter.unusedVariables false
set_option linter.unusedSimpArgs false
set_option linter.unusedSectionVars false

variable {P : Program} {T : Tab} {ops : Array Oper} {E : Nat → Env} {Hs : Nat → Heap} {μ0 : Mu} {w0 : World} {listed : Array Bool} {a : Act} {w : World} {μ : Mu} {lo hi k : Nat} {o : Oper}

/-- behind a quiet operation that comes to memory -/
theorem quiet_next (hl0 : ∀ b x, μ0 b = some x → b < (Hs 0).length) (r : Run P T ops E Hs) (ok : drawOk ops = true) (m : Mid P T ops E Hs μ0 w0 listed a w μ lo hi) (hsz : listed.size = ops.size) (cl : Closed ops (Lst listed)) (ta : a.tmps.size = (E 0).length)
    (ho : ops[k]? = some o) (hnl : ¬ Lst listed k) (hr : Ready ops (Lst listed) k) (hlo : lo ≤ k) (hhi : k < hi) {v : V} (hE : E (k + 1) = (E k).put o.dst v) {cv : Value} {w' : World} {μ' : Mu}
    (hv : VR μ' v cv) (s' : Sim μ' (Hs (k + 1)) w') (t' : Tr (μ.cut (Hs k).length) (Hs k) w μ' (Hs (k + 1)) w') :
    ∃ μ'', Mid P T ops E Hs μ0 w0 (listed.setIfInBounds k true) (a.put o.dst cv) w' μ'' lo hi := by
  have hks : k < ops.size := (Array.getElem?_eq_some_iff.1 ho).1
  have hkl : k < listed.size := by omega
  have p1 : Hs k <+: Hs (k + 1) := m.quiet k hlo hhi
  have p2 : Hs (k + 1) <+: Hs hi := quiet_prefix m.quiet (by omega) hhi (Nat.le_refl _)
  have len1 : (Hs k).length ≤ (Hs (k + 1)).length := p1.length_le
  -- nothing of this operation's lay there
  have fresh0 : ∀ b, (Hs k).length ≤ b → b < (Hs (k + 1)).length → μ b = none := fun b h1 h2 => by
    cases hb : μ b with
    | none => rfl
    | some x =>
      exfalso
      rcases m.dom b x hb with h | ⟨j, j1, j2, j3, j4, j5⟩
      · have := (quiet_prefix m.quiet (Nat.le_refl _) hlo (by omega)).length_le
        omega
      · by_cases hjk : j = k
        · subst hjk; exact hnl j1
        · rcases Nat.lt_or_gt_of_ne hjk with h | h
          · have := (quiet_prefix m.quiet (by omega : lo ≤ j + 1) (by omega : j + 1 ≤ k) (by omega)).length_le
            omega
          · have := (quiet_prefix m.quiet (by omega : lo ≤ k + 1) (by omega : k + 1 ≤ j) (by omega)).length_le
            omega
  let μ'' : Mu := fun b => if b < (Hs (k + 1)).length then μ' b else μ b
  have low : ∀ b x, b < (Hs k).length → (μ' b = some x ↔ μ b = some x) := fun b x hb => by
    constructor
    · intro h
      cases hm : μ b with
      | some y =>
        have := t'.ext b y (by rw [Mu.cut_lt hb]; exact hm)
        rw [h] at this; exact this.symm
      | none =>
        have := (t'.fresh b x h (by rw [Mu.cut_lt hb]; exact hm)).1
        omega
    · intro h; exact t'.ext b x (by rw [Mu.cut_lt hb]; exact h)
  have ext : Mu.Le μ μ'' := fun b x hx => by
    show (if b < (Hs (k + 1)).length then μ' b else μ b) = some x
    split
    · rename_i hb
      by_cases hbk : b < (Hs k).length
      · exact (low b x hbk).2 hx
      · rw [fresh0 b (by omega) hb] at hx; cases hx
    · exact hx
  have ext' : Mu.Le μ' μ'' := fun b x hx => by
    show (if b < (Hs (k + 1)).length then μ' b else μ b) = some x
    rw [if_pos (s'.lt b x hx).1]; exact hx
  have cut' : Mu.Le μ' (μ''.cut (Hs (k + 1)).length) := fun b x hx => by
    have hb := (s'.lt b x hx).1
    rw [Mu.cut_lt hb]; exact ext' b x hx
  -- what lay behind its blocks is as it was
  have far : ∀ b x q, μ b = some x → (Hs hi)[b]? = some q → q ≠ .dead → (Hs (k + 1)).length ≤ b → w'.heap[x.B]? = w.heap[x.B]? := fun b x q hx hq hd hb => by
    refine t'.frame x.B (m.sim.lt b x hx).2 fun b0 x0 q0 hx0 hq0 ho0 => ?_
    obtain ⟨c1, c2⟩ := Mu.cut_some hx0
    have hq0' : (Hs hi)[b0]? = some q0 := by
      rw [prefix_get (quiet_prefix m.quiet hlo (by omega) (Nat.le_refl _)) c1]; exact hq0
    exact fun e => m.sim.sole b0 x0 q0 c2 hq0' ho0 b x q (by omega) hx hq hd e.symm
  have cellf : ∀ {B : Nat}, w'.heap[B]? = w.heap[B]? → ∀ i, w'.cell? ⟨B, i, none⟩ = w.cell? ⟨B, i, none⟩ := fun h i => by simp only [World.cell?, h]
  have frzf : ∀ {B : Nat}, w'.heap[B]? = w.heap[B]? → ∀ i, w'.frozen? ⟨B, i, none⟩ = w.frozen? ⟨B, i, none⟩ := fun h i => by simp only [World.frozen?, h]
  have two : ∀ b x, μ'' b = some x → (b < (Hs (k + 1)).length ∧ μ' b = some x) ∨ ((Hs (k + 1)).length ≤ b ∧ μ b = some x) := fun b x hx => by
    have hx' : (if b < (Hs (k + 1)).length then μ' b else μ b) = some x := hx
    split at hx'
    · rename_i h; exact .inl ⟨h, hx'⟩
    · rename_i h; exact .inr ⟨by omega, hx'⟩
  have back : ∀ b q, b < (Hs (k + 1)).length → (Hs hi)[b]? = some q → (Hs (k + 1))[b]? = some q := fun b q hb hq => by
    rw [prefix_get p2 hb] at hq; exact hq
  -- where a new block of this operation's lies
  have newB : ∀ b x q, (Hs k).length ≤ b → μ' b = some x → (Hs (k + 1))[b]? = some q → w.heap.size ≤ x.B := fun b x q hb hx hq => by
    have hn : μ.cut (Hs k).length b = none := by unfold Mu.cut; rw [if_neg (by omega)]
    rcases (t'.fresh b x hx hn).2 with h | ⟨b0, x0, q0, e1, e2, e3, e4, e5⟩
    · exact h
    · exfalso
      have hb0 := (List.getElem?_eq_some_iff.1 e3).1
      rw [prefix_get p1 hb0, e3] at e5
      obtain rfl := Option.some.inj e5
      simp [Blk.own] at e4
  have S'' : Sim μ'' (Hs hi) w' := by
    refine ⟨fun b x hx => ?_, fun b x cs wr hx hb i u hi' => ?_, fun b x cs wr hx hb => ?_, fun b x cs hx hb i hi' => ?_, fun b x q hx hb hown b2 x2 q2 hne hx2 hb2 hd => ?_, fun b x es hx hb => ?_⟩
    · rcases two b x hx with ⟨h1, h2⟩ | ⟨h1, h2⟩
      · exact ⟨Nat.lt_of_lt_of_le h1 p2.length_le, (s'.lt b x h2).2⟩
      · exact ⟨(m.sim.lt b x h2).1, Nat.lt_of_lt_of_le (m.sim.lt b x h2).2 t'.size⟩
    · rcases two b x hx with ⟨h1, h2⟩ | ⟨h1, h2⟩
      · obtain ⟨g1, c, g2, g3⟩ := s'.row b x cs wr h2 (back _ _ h1 hb) i u hi'
        exact ⟨g1, c, g2, g3.mono ext'⟩
      · obtain ⟨g1, c, g2, g3⟩ := m.sim.row b x cs wr h2 hb i u hi'
        exact ⟨g1, c, by rw [cellf (far b x _ h2 hb (by simp) h1)]; exact g2, g3.mono ext⟩
    · rcases two b x hx with ⟨h1, h2⟩ | ⟨h1, h2⟩
      · exact s'.ext b x cs wr h2 (back _ _ h1 hb)
      · obtain ⟨g1, g2⟩ := m.sim.ext b x cs wr h2 hb
        exact ⟨g1, fun i hi' => by rw [cellf (far b x _ h2 hb (by simp) h1)]; exact g2 i hi'⟩
    · rcases two b x hx with ⟨h1, h2⟩ | ⟨h1, h2⟩
      · exact s'.free b x cs h2 (back _ _ h1 hb) i hi'
      · rw [frzf (far b x _ h2 hb (by simp) h1)]; exact m.sim.free b x cs h2 hb i hi'
    · rcases two b x hx with ⟨h1, h2⟩ | ⟨h1, h2⟩ <;> rcases two b2 x2 hx2 with ⟨g1, g2⟩ | ⟨g1, g2⟩
      · exact s'.sole b x q h2 (back _ _ h1 hb) hown b2 x2 q2 hne g2 (back _ _ g1 hb2) hd
      · by_cases hbk : b < (Hs k).length
        · exact m.sim.sole b x q ((low b x hbk).1 h2) hb hown b2 x2 q2 hne g2 hb2 hd
        · have := newB b x q (by omega) h2 (back _ _ h1 hb)
          have := (m.sim.lt b2 x2 g2).2
          omega
      · by_cases hbk : b2 < (Hs k).length
        · exact m.sim.sole b x q h2 hb hown b2 x2 q2 hne ((low b2 x2 hbk).1 g2) hb2 hd
        · have := newB b2 x2 q2 (by omega) g2 (back _ _ g1 hb2)
          have := (m.sim.lt b x h2).2
          omega
      · exact m.sim.sole b x q h2 hb hown b2 x2 q2 hne g2 hb2 hd
    · rcases two b x hx with ⟨h1, h2⟩ | ⟨h1, h2⟩
      · exact s'.mp b x es h2 (back _ _ h1 hb)
      · obtain ⟨mm, cl', g1, g2⟩ := m.sim.mp b x es h2 hb
        exact ⟨mm, cl', by rw [far b x _ h2 hb (by simp) h1]; exact g1, g2⟩
  refine ⟨μ'', ⟨m.lohi, m.hin, m.quiet, fun j oj hj ht hjl => ?_, fun j oj hj ht hjh hl => ?_, S'', fun b x hx => ?_, fun b x cs wr hx hb mm h1 h2 hbm i u hiu c hc => ?_, ?_, ?_⟩⟩
  · rw [Lst.set hkl]; exact (m.done j oj hj ht hjl).imp .inr id
  · rw [Lst.set hkl] at hl
    rcases hl with rfl | hl
    · omega
    · exact m.todo j oj hj ht hjh hl
  · rcases two b x hx with ⟨h1, h2⟩ | ⟨h1, h2⟩
    · by_cases hbk : b < (Hs k).length
      · rcases m.dom b x ((low b x hbk).1 h2) with h | ⟨j, j1, j2, j3, j4⟩
        · exact .inl h
        · exact .inr ⟨j, (Lst.set hkl).2 (.inr j1), j2, j3, j4⟩
      · exact .inr ⟨k, (Lst.set hkl).2 (.inl rfl), hlo, hhi, by omega, h1⟩
    · rcases m.dom b x h2 with h | ⟨j, j1, j2, j3, j4⟩
      · exact .inl h
      · exact .inr ⟨j, (Lst.set hkl).2 (.inr j1), j2, j3, j4⟩
  · by_cases hbn : (Hs k).length ≤ b ∧ b < (Hs (k + 1)).length
    · rcases two b x hx with ⟨g1, g2⟩ | ⟨g1, g2⟩
      · obtain ⟨_, c0, _, hc0⟩ := s'.row b x cs wr g2 (back _ _ g1 hb) i u hiu
        have := (VR.back ext' hc0 hc).mono cut'
        refine this.mono (Mu.cut_mono ?_)
        have hmk : k + 1 ≤ mm := by
          apply Nat.le_of_not_lt
          intro hlt
          have := (quiet_prefix m.quiet h1 (by omega : mm ≤ k) (by omega)).length_le
          omega
        exact (quiet_prefix m.quiet (by omega) hmk h2).length_le
      · omega
    · have hμb : μ b = some x := by
        rcases two b x hx with ⟨g1, g2⟩ | ⟨g1, g2⟩
        · exact (low b x (by omega)).1 g2
        · exact g2
      obtain ⟨_, c0, _, hc0⟩ := m.sim.row b x cs wr hμb hb i u hiu
      exact (m.wf b x cs wr hμb hb mm h1 h2 hbm i u hiu c (VR.back ext hc0 hc)).mono (Mu.cut_ext ext)
  · exact vals_next r ok hsz cl ho hnl hr hE ta ext (hv.mono cut') m.vals
  · refine ⟨m.tr.ext.trans ext, fun b x hx hn => ?_, m.tr.stay, Nat.le_trans m.tr.size t'.size, fun B hB hno => ?_, t'.os.trans m.tr.os, t'.tape.trans m.tr.tape, t'.output.trans m.tr.output⟩
    · by_cases hbn : (Hs k).length ≤ b ∧ b < (Hs (k + 1)).length
      · rcases two b x hx with ⟨g1, g2⟩ | ⟨g1, g2⟩
        · refine ⟨Nat.le_trans (r.mono (Nat.zero_le k) (by omega)) hbn.1, .inl ?_⟩
          have hq : ∃ q, (Hs (k + 1))[b]? = some q := ⟨(Hs (k + 1))[b], by simp [g1]⟩
          obtain ⟨q, hq⟩ := hq
          exact Nat.le_trans m.tr.size (newB b x q hbn.1 g2 hq)
        · omega
      · have hμb : μ b = some x := by
          rcases two b x hx with ⟨g1, g2⟩ | ⟨g1, g2⟩
          · exact (low b x (by omega)).1 g2
          · exact g2
        exact m.tr.fresh b x hμb hn
    · rw [t'.frame B (Nat.lt_of_lt_of_le hB m.tr.size) ?_, m.tr.frame B hB hno]
      intro b x q hx hq hown heq
      obtain ⟨c1, c2⟩ := Mu.cut_some hx
      cases h0 : μ0 b with
      | some y =>
        obtain rfl : x = y := Option.some.inj (c2.symm.trans (m.tr.ext _ _ h0))
        have hq' : (Hs hi)[b]? = some q := by
          rw [prefix_get (quiet_prefix m.quiet hlo (by omega) (Nat.le_refl _)) c1]; exact hq
        cases hg : (Hs 0)[b]? with
        | some q0 =>
          obtain ⟨q1, e1, e2⟩ := m.tr.stay b q0 hg
          rw [hq'] at e1
          obtain rfl := Option.some.inj e1
          exact hno b x q0 h0 hg (own_back e2 hown) heq
        | none =>
          have : (Hs 0).length ≤ b := by simpa using hg
          have := hl0 b x h0
          omega
      | none =>
        rcases (m.tr.fresh b x c2 h0).2 with h3 | ⟨b1, x1, q1, f1, f2, f3, f4, f5⟩
        · omega
        · exact hno b1 x1 q1 f1 f3 f4 (f2.trans heq)

/-- behind an operation that comes to no memory, or is passed over -/
theorem still_next (r : Run P T ops E Hs) (ok : drawOk ops = true) (m : Mid P T ops E Hs μ0 w0 listed a w μ lo hi) (hsz : listed.size = ops.size) (cl : Closed ops (Lst listed)) (ta : a.tmps.size = (E 0).length)
    (ho : ops[k]? = some o) (hnl : ¬ Lst listed k) (hr : Ready ops (Lst listed) k) (ht : touches o.op = false ∨ k < hi) {v : V} (hE : E (k + 1) = (E k).put o.dst v) {cv : Value} (hv : VR (μ.cut (Hs (k + 1)).length) v cv) :
    Mid P T ops E Hs μ0 w0 (listed.setIfInBounds k true) (a.put o.dst cv) w μ lo hi := by
  have hks : k < ops.size := (Array.getElem?_eq_some_iff.1 ho).1
  have hkl : k < listed.size := by omega
  refine ⟨m.lohi, m.hin, m.quiet, fun j oj hj htj hjl => ?_, fun j oj hj htj hjh hl => ?_, m.sim, fun b x hx => ?_, m.wf, vals_next r ok hsz cl ho hnl hr hE ta (Mu.Le.refl _) hv m.vals, m.tr⟩
  · rw [Lst.set hkl]; exact (m.done j oj hj htj hjl).imp .inr id
  · rw [Lst.set hkl] at hl
    rcases hl with rfl | hl
    · rcases ht with ht | ht
      · rw [ho] at hj
        obtain rfl := Option.some.inj hj
        rw [ht] at htj; cases htj
      · omega
    · exact m.todo j oj hj htj hjh hl
  · rcases m.dom b x hx with h | ⟨j, j1, j2, j3, j4⟩
    · exact .inl h
    · exact .inr ⟨j, (Lst.set hkl).2 (.inr j1), j2, j3, j4⟩

/-- an operation that is not quiet has all others that come to memory ahead of it or behind it -/
theorem loud_at (r : Run P T ops E Hs) (m : Mid P T ops E Hs μ0 w0 listed a w μ lo hi) (cl : Closed ops (Lst listed)) (ho : ops[k]? = some o) (hnl : ¬ Lst listed k) (hr : Ready ops (Lst listed) k) (hq : ¬ Hs k <+: Hs (k + 1)) :
    hi ≤ k ∧ Hs k = Hs hi := by
  have hks : k < ops.size := (Array.getElem?_eq_some_iff.1 ho).1
  obtain ⟨ht, hb⟩ := r.loud ho hq
  have hge : hi ≤ k := by
    apply Nat.le_of_not_lt
    intro hlt
    by_cases hlo : lo ≤ k
    · exact hq (m.quiet k hlo hlt)
    · rcases m.done k o ho ht (by omega) with h' | h'
      · exact hnl h'
      · obtain ⟨t, x, e⟩ := lateAt_load h' ho
        rcases r.step k o ho with ⟨_, v, st, _⟩ | ⟨_, _, hH⟩
        · rw [e] at st; exact hq (by rw [st.load_same.2]; exact List.prefix_refl _)
        · exact hq (by rw [hH]; exact List.prefix_refl _)
  refine ⟨hge, ?_⟩
  have : ∀ j, hi ≤ j → j ≤ k → Hs j = Hs hi := by
    intro j
    induction j with
    | zero => intro h1 _; rw [show hi = 0 by omega]
    | succ j ih =>
      intro h1 h2
      by_cases hj : hi = j + 1
      · rw [hj]
      · obtain ⟨oj, hoj⟩ : ∃ o, ops[j]? = some o := ⟨ops[j]'(by omega), by simp⟩
        cases htj : touches oj.op with
        | false => rw [r.still hoj htj]; exact ih (by omega) (by omega)
        | true =>
          rcases barrier_lt hb hoj htj (by omega) with hba | hla
          · exact absurd (anc_good cl (.inr hr) hba) (m.todo j oj hoj htj (by omega))
          · obtain ⟨t, x, e⟩ := lateAt_load hla hoj
            have hsame : Hs (j + 1) = Hs j := by
              rcases r.step j oj hoj with ⟨_, v, st, _⟩ | ⟨_, _, hH⟩
              · rw [e] at st; exact st.load_same.2
              · exact hH
            rw [hsame]; exact ih (by omega) (by omega)
  exact this k hge (Nat.le_refl _)

theorem loud_next (r : Run P T ops E Hs) (ok : drawOk ops = true) (m : Mid P T ops E Hs μ0 w0 listed a w μ lo hi) (hl0 : ∀ b x, μ0 b = some x → b < (Hs 0).length) (hsz : listed.size = ops.size) (cl : Closed ops (Lst listed)) (ta : a.tmps.size = (E 0).length)
    (ho : ops[k]? = some o) (hnl : ¬ Lst listed k) (hr : Ready ops (Lst listed) k) (hq : ¬ Hs k <+: Hs (k + 1)) {v : V} (hE : E (k + 1) = (E k).put o.dst v) {cv : Value} {w' : World} {μ' : Mu}
    (hv : VR μ' v cv) (s' : Sim μ' (Hs (k + 1)) w') (t' : Tr μ (Hs k) w μ' (Hs (k + 1)) w') :
    Mid P T ops E Hs μ0 w0 (listed.setIfInBounds k true) (a.put o.dst cv) w' μ' (k + 1) (k + 1) := by
  have hks : k < ops.size := (Array.getElem?_eq_some_iff.1 ho).1
  have hkl : k < listed.size := by omega
  obtain ⟨ht, hb⟩ := r.loud ho hq
  obtain ⟨hge, hh⟩ := loud_at r m cl ho hnl hr hq
  have cl' := closed_next hkl cl hr
  refine ⟨Nat.le_refl _, by omega, fun j h1 h2 => by omega, fun j oj hj htj hjl => ?_, fun j oj hj htj hjh hl => ?_, s', fun b x hx => .inl (s'.lt b x hx).1, fun b x cs wr hx hbb mm h1 h2 hbm i u hiu c hc => ?_, ?_, ?_⟩
  · rw [Lst.set hkl]
    by_cases hjk : j = k
    · exact .inl (.inl hjk)
    · rcases barrier_lt hb hj htj (by omega) with h | h
      · exact .inl (.inr (anc_good cl (.inr hr) h))
      · exact .inr h
  · rw [Lst.set hkl] at hl
    rcases hl with rfl | hl
    · omega
    · exact hnl (anc_good cl (.inl hl) (barrier_gt hb hj htj (by omega)))
  · obtain rfl : mm = k + 1 := by omega
    exact hc.mono (cut_all s')
  · exact vals_next r ok hsz cl ho hnl hr hE ta t'.ext (hv.mono (cut_all s')) m.vals
  · refine Tr.trans ?_ t' hl0
    rw [hh]; exact m.tr

theorem ready_spec {md : Region.Mode} (h : k ∈ Region.ready md ops listed) (hsz : listed.size = ops.size) : (∃ o, ops[k]? = some o) ∧ ¬ Lst listed k ∧ (md = .any → Ready ops (Lst listed) k) := by
  obtain ⟨h1, o, ho, h2⟩ := mem_ready.1 h
  have hks : k < ops.size := (Array.getElem?_eq_some_iff.1 ho).1
  refine ⟨⟨o, ho⟩, fun hl => ?_, fun hm o' ho' e he hb => ?_⟩
  · unfold Lst at hl
    have : k < listed.size := by omega
    simp only [Array.getD_eq_getD_getElem?, Array.getElem?_eq_getElem this, Option.getD_some] at h1 hl
    rw [hl] at h1; cases h1
  · subst hm
    rw [ho] at ho'
    obtain rfl := Option.some.inj ho'
    exact h2 e he hb

theorem load_run (fit : Fits P T) {e : Env} {h : Heap} (s : Sim μ h w) (hl : Looks μ e a o.op) {t : Nat} {x : Operand} (ho : o.op = .load t x) {v : V} (hm : memOp T e.ev h o.op = some (v, h)) : ∃ cv, VR μ v cv ∧ (execOp a.eval o).run P w = .ok (.value cv) w := by
  rw [ho] at hm
  simp only [memOp] at hm
  split at hm
  · rename_i i b off hT hx
    have hx' := hl x (by rw [ho]; simp [Op.operands]) _ hx
    simp only [VR] at hx'
    obtain ⟨y, hy, ey⟩ := hx'
    obtain ⟨cv, h1, h2⟩ := load_sound fit s hT hy hm
    refine ⟨cv, h2, ?_⟩
    simp only [execOp, ho, ey]
    exact run_value h1
  · cases hm

/-- one operation more -/
theorem inv_step (fit : Fits P T) (r : Run P T ops E Hs) (ok : drawOk ops = true) (hl0 : ∀ b x, μ0 b = some x → b < (Hs 0).length) (iv : Inv P T ops E Hs μ0 w0 listed a w) (hk : k ∈ Region.ready .any ops listed) (Q : Exit → Act → World → Prop) :
    wpOp P ops Q k (Inv P T ops E Hs μ0 w0 (listed.setIfInBounds k true)) a w := by
  obtain ⟨⟨o, ho⟩, hnl, hr⟩ := ready_spec hk iv.size
  have hr := hr rfl
  obtain ⟨μ, lo, hi, m⟩ := iv.mid
  have hks : k < ops.size := (Array.getElem?_eq_some_iff.1 ho).1
  have hkl : k < listed.size := by rw [iv.size]; exact hks
  have cl' := closed_next hkl iv.closed hr
  have hg := m.guard r ok iv.tmps iv.closed ho hnl hr
  have tsz : ∀ cv, (a.put o.dst cv).tmps.size = (E 0).length := fun cv => by
    rw [← iv.tmps]; cases o.dst <;> simp [Act.put]
  have df : ∀ cv, (a.put o.dst cv).defers = [] := fun cv => by rw [← iv.defers]; cases o.dst <;> rfl
  have fin : ∀ {cv w' μ' lo' hi'}, Mid P T ops E Hs μ0 w0 (listed.setIfInBounds k true) (a.put o.dst cv) w' μ' lo' hi' → Inv P T ops E Hs μ0 w0 (listed.setIfInBounds k true) (a.put o.dst cv) w' := fun h =>
    ⟨by simp [iv.size], cl', tsz _, df _, _, _, _, h⟩
  unfold wpOp
  simp only [ho, hg]
  rcases r.step k o ho with ⟨hgo, v, st, hE, hlen, hqb⟩ | ⟨hgo, hE, hH⟩
  · rw [hgo]
    simp only [if_true]
    refine .inl ?_
    cases ht : touches o.op with
    | false =>
      obtain ⟨hp, hH⟩ := st.pure_same ht
      obtain ⟨cv, k1, k2⟩ := op_pure fit (m.looks r ok iv.closed ho hnl hr) hp
      unfold Oper.wp
      rw [k2 w]
      exact fin (still_next r ok m iv.size iv.closed iv.tmps ho hnl hr (.inl ht) hE (by rw [hH]; exact k1))
    | true =>
      by_cases hq : Hs k <+: Hs (k + 1)
      · by_cases hlt : lateAt ops k = true ∧ k < lo
        · -- a load behind a store that need not have waited for it
          obtain ⟨t, x, e⟩ := lateAt_load hlt.1 ho
          obtain ⟨v', hE', hu, hmem⟩ := r.late k o ho hlt.1 hgo
          have hlh := m.lohi
          have hm' := hmem hi (by omega) m.hin
          have lk : Looks μ (E k) a o.op := fun x hx u hu => (m.looks r ok iv.closed ho hnl hr x hx u hu).mono (Mu.cut_le _ _)
          obtain ⟨cv, k1, k2⟩ := load_run fit m.sim lk e hm'
          unfold Oper.wp
          rw [k2]
          exact fin (still_next r ok m iv.size iv.closed iv.tmps ho hnl hr (.inr (by omega)) hE' (VR.under hu k1))
        obtain ⟨hi', hlo, hhi, m'⟩ := m.reach r iv.closed ho ht hnl hr hq (fun h => by
          apply Nat.le_of_not_lt
          intro h'; exact hlt ⟨h, h'⟩)
        have pk : Hs k <+: Hs hi' := quiet_prefix m'.quiet hlo (by omega) (Nat.le_refl _)
        have sk := m'.sim.shorter pk (fun b x cs wr hx hb hrow i u hiu c hc => m'.wf b x cs wr hx hrow k hlo (by omega) hb i u hiu c hc)
        refine op_sim fit sk (m'.looks r ok iv.closed ho hnl hr) st fun cv w' μ' hv s' t' => ?_
        obtain ⟨μ'', m''⟩ := quiet_next hl0 r ok m' iv.size iv.closed iv.tmps ho hnl hr hlo hhi hE hv s' t'
        exact fin m''
      · obtain ⟨hge, hh⟩ := loud_at r m iv.closed ho hnl hr hq
        have sk : Sim μ (Hs k) w := by rw [hh]; exact m.sim
        have lk : Looks μ (E k) a o.op := fun x hx u hu => (m.looks r ok iv.closed ho hnl hr x hx u hu).mono (Mu.cut_le _ _)
        refine op_sim fit sk lk st fun cv w' μ' hv s' t' => ?_
        exact fin (loud_next r ok m hl0 iv.size iv.closed iv.tmps ho hnl hr hq hE hv s' t')
  · rw [hgo]
    simp only [Bool.false_eq_true, if_false]
    cases ht : touches o.op with
    | false => exact fin (still_next r ok m iv.size iv.closed iv.tmps ho hnl hr (.inl ht) hE VR.undef)
    | true =>
      by_cases hlt : lateAt ops k = true ∧ k < lo
      · have hlh := m.lohi
        exact fin (still_next r ok m iv.size iv.closed iv.tmps ho hnl hr (.inr (by omega)) hE VR.undef)
      obtain ⟨hi', hlo, hhi, m'⟩ := m.reach r iv.closed ho ht hnl hr (by rw [hH]; exact List.prefix_refl _) (fun h => by
        apply Nat.le_of_not_lt
        intro h'; exact hlt ⟨h, h'⟩)
      exact fin (still_next r ok m' iv.size iv.closed iv.tmps ho hnl hr (.inr hhi) hE VR.undef)

/-- what stands behind the statement -/
def After (E : Env) (H : Heap) (H0 : Heap) (μ0 : Mu) (w0 : World) (a : Act) (w : World) : Prop := ∃ μ, Sim μ H w ∧ EnvR μ E a.tmps ∧ Tr μ0 H0 w0 μ H w ∧ a.defers = []

theorem inv_end (r : Run P T ops E Hs) (iv : Inv P T ops E Hs μ0 w0 listed a w) (hall : ∀ k, k < ops.size → Lst listed k) : After (E ops.size) (Hs ops.size) (Hs 0) μ0 w0 a w := by
  obtain ⟨μ, lo, hi, m⟩ := iv.mid
  have hH : ∀ j, hi ≤ j → j ≤ ops.size → Hs j = Hs hi := by
    intro j
    induction j with
    | zero => intro h1 _; rw [show hi = 0 by omega]
    | succ j ih =>
      intro h1 h2
      by_cases hj : hi = j + 1
      · rw [hj]
      · obtain ⟨oj, hoj⟩ : ∃ o, ops[j]? = some o := ⟨ops[j]'(by omega), by simp⟩
        cases htj : touches oj.op with
        | false => rw [r.still hoj htj]; exact ih (by omega) (by omega)
        | true => exact absurd (hall j (by omega)) (m.todo j oj hoj htj (by omega))
  have hn := hH ops.size m.hin (Nat.le_refl _)
  refine ⟨μ, by rw [hn]; exact m.sim, ?_, by rw [hn]; exact m.tr, iv.defers⟩
  refine VRs.of_get (by rw [Array.length_toList, iv.tmps, r.len (Nat.le_refl _)]) fun t v ht => ?_
  have htl : t < (E 0).length := by rw [← r.len (Nat.le_refl ops.size)]; exact (List.getElem?_eq_some_iff.1 ht).1
  obtain ⟨k', h1, h2, h3, v', cv, h4, h5, h6⟩ := m.vals t htl
  have hs := r.same h1 (Nat.le_refl _) (fun i o ho hi1 hi2 hd => by have := (h3 i o ho hd).1 (hall i hi2); omega)
  rw [ht, h4] at hs
  obtain rfl := Option.some.inj hs
  exact ⟨cv, by simpa using h5, h6.mono (Mu.cut_le _ _)⟩

theorem count_next {listed : Array Bool} {k : Nat} (hk : k < listed.size) (hn : ¬ Lst listed k) : (listed.setIfInBounds k true).toList.count false + 1 = listed.toList.count false := by
  have hf : listed[k] = false := by
    unfold Lst at hn
    simp only [Array.getD_eq_getD_getElem?, Array.getElem?_eq_getElem hk, Option.getD_some] at hn
    simpa using hn
  rw [Array.toList_setIfInBounds, List.count_set (by simpa using hk)]
  have hp : 0 < listed.toList.count false := List.count_pos_iff.2 (by rw [← hf]; exact Array.getElem_mem_toList hk)
  simp only [Array.getElem_toList, hf, beq_self_eq_true, if_true]
  rw [if_neg (by decide)]
  omega

theorem draw_any (fit : Fits P T) (r : Run P T ops E Hs) (ok : drawOk ops = true) (hl0 : ∀ b x, μ0 b = some x → b < (Hs 0).length) {Q : Exit → Act → World → Prop} (hQ : ∀ a w, After (E ops.size) (Hs ops.size) (Hs 0) μ0 w0 a w → Q .normal a w) :
    ∀ (fuel : Nat) (listed : Array Bool) (a : Act) (w : World), Inv P T ops E Hs μ0 w0 listed a w → listed.toList.count false ≤ fuel → wpAny P .any ops Q fuel listed a w := by
  have allEnd : ∀ (listed : Array Bool), listed.size = ops.size → Region.ready .any ops listed = [] → ∀ k, k < ops.size → Lst listed k := by
    intro listed hsz hre k
    induction k using Nat.strongRecOn with
    | _ k ih =>
      intro hk
      by_cases hl : Lst listed k
      · exact hl
      · exfalso
        have : k ∈ Region.ready .any ops listed := by
          rw [mem_ready]
          have hkl : k < listed.size := by omega
          refine ⟨?_, ops[k], by simp, fun e he hb => ih e.on (drawOk_edge ok (k := k) (o := ops[k]) (by simp) he hb) ?_⟩
          · unfold Lst at hl
            simp only [Array.getD_eq_getD_getElem?, Array.getElem?_eq_getElem hkl, Option.getD_some] at hl ⊢
            simpa using hl
          · have := drawOk_edge ok (k := k) (o := ops[k]) (by simp) he hb
            omega
        rw [hre] at this; cases this
  intro fuel
  induction fuel with
  | zero =>
    intro listed a w iv hc
    have hre : Region.ready .any ops listed = [] := by
      cases hr : Region.ready .any ops listed with
      | nil => rfl
      | cons k l =>
        exfalso
        obtain ⟨⟨o, ho⟩, hnl, _⟩ := ready_spec (k := k) (md := .any) (by rw [hr]; simp) iv.size
        have := count_next (listed := listed) (k := k) (by rw [iv.size]; exact (Array.getElem?_eq_some_iff.1 ho).1) hnl
        omega
    exact ⟨hre, hQ _ _ (inv_end r iv (allEnd listed iv.size hre))⟩
  | succ fuel ih =>
    intro listed a w iv hc
    refine ⟨fun hre => hQ _ _ (inv_end r iv (allEnd listed iv.size hre)), fun k hk => ?_⟩
    refine wpOp_mono (fun a' w' iv' => ih _ _ _ iv' ?_) (inv_step fit r ok hl0 iv hk Q)
    obtain ⟨⟨o, ho⟩, hnl, _⟩ := ready_spec hk iv.size
    have := count_next (listed := listed) (k := k) (by rw [iv.size]; exact (Array.getElem?_eq_some_iff.1 ho).1) hnl
    omega

/-- A STATEMENT WHOSE ORDER GO LEAVES OPEN -/
theorem draw_sim (fit : Fits P T) (hm : P.follows .mixedOrders = true) (r : Run P T ops E Hs) (ok : drawOk ops = true) {id : Nat} {a : Act} {w : World} {μ : Mu} (s : Sim μ (Hs 0) w) (he : EnvR μ (E 0) a.tmps) (hd : a.defers = []) {Q : Exit → Act → World → Prop}
    (hQ : ∀ a' w', After (E ops.size) (Hs ops.size) (Hs 0) μ w a' w' → Q .normal a' w') : (Code.region id ops true).wp P Q a w := by
  refine wp_region_any hm ?_
  have s1 : Sim μ (Hs 0) { w with drawn := w.drawn + 1 } := s.of_heap rfl
  have t1 : Tr μ (Hs 0) w μ (Hs 0) { w with drawn := w.drawn + 1 } := Tr.of_heap rfl rfl rfl rfl
  refine draw_any (μ0 := μ) (w0 := w) fit r ok (fun b x h => (s.lt b x h).1) hQ _ _ _ _ ⟨by simp, ?_, ?_, hd, μ, 0, 0, ?_⟩ ?_
  · intro k o ho hl
    exfalso
    unfold Lst at hl
    rw [Array.getD_eq_getD_getElem?] at hl
    cases hg : (Array.replicate ops.size false)[k]? with
    | none => rw [hg] at hl; simp at hl
    | some b =>
      rw [hg] at hl
      simp at hl
      have := (Array.getElem?_eq_some_iff.1 hg).2
      simp at this
      rw [hl] at this; cases this
  · have := VRs.length he; simpa using this
  · have nl : ∀ j, ¬ Lst (Array.replicate ops.size false) j := fun j hl => by
      unfold Lst at hl
      rw [Array.getD_eq_getD_getElem?] at hl
      cases hg : (Array.replicate ops.size false)[j]? with
      | none => rw [hg] at hl; simp at hl
      | some b =>
        rw [hg] at hl
        simp at hl
        have := (Array.getElem?_eq_some_iff.1 hg).2
        simp at this
        rw [hl] at this; cases this
    refine ⟨Nat.le_refl _, Nat.zero_le _, fun j _ h => by omega, fun j _ _ _ h => by omega, fun j _ _ _ _ => nl j, s1, fun b x hx => .inl (s.lt b x hx).1, fun b x cs wr hx hb m h1 h2 hbm i v hi cv hv => ?_, fun t ht => ?_, t1⟩
    · obtain rfl : m = 0 := by omega
      exact hv.mono (cut_all s)
    · refine ⟨0, Nat.zero_le _, .inl rfl, fun i o ho hdd => ⟨fun h => absurd h (nl i), fun h => by omega⟩, ?_⟩
      obtain ⟨cv, h1, h2⟩ := VRs.get he (i := t) (v := (E 0)[t]) (by simp [ht])
      exact ⟨(E 0)[t], cv, by simp [ht], by simpa using h1, h2.mono (cut_all s)⟩
  · simp [List.count_replicate]

end Go.Proofs.Ytjageapgbpdlhaa.VM
