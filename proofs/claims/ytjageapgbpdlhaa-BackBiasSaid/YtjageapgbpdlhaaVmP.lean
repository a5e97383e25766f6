/- THE SMALL MACHINE, part P: a law's row, from what the small machine says of the law. -/
import Derived.Test.YtjageapgbpdlhaaVmO
import Derived.JoinedCond
import Derived.JoinedOf
import Derived.Carry
import Derived.Below
import Derived.OpenShut
import Derived.ProofKit
namespace Go.Proofs.Ytjageapgbpdlhaa.VM
open Go Go.ChangeShapes Go.WideShapes Go.RowKit
set_option linter.unusedVariables false
set_option linter.unusedSimpArgs false

variable {P : Program} {T : Tab}

/-- one argument -/
def RdV (T : Tab) (K : Heap) {D : Type} (t : Nat) (v : V) (d : DataW D) : Prop :=
  ∃ i, T t = some i ∧ ((i.k.agg = true ∧ ∃ vs, v = .agg vs ∧ Rd T K t vs d) ∨ (i.k.agg = false ∧ Rd T K t [v] d))

def RdAll (T : Tab) (K : Heap) {D : Type} : List Nat → List V → List (DataW D) → Prop
  | [], [], [] => True
  | t :: ts, v :: vs, d :: ds => RdV T K t v d ∧ RdAll T K ts vs ds
  | _, _, _ => False

theorem RdV.mono {D : Type} {K K' : Heap} (hp : K <+: K') {t : Nat} {v : V} {d : DataW D} (h : RdV T K t v d) : RdV T K' t v d := by
  obtain ⟨i, h1, h2⟩ := h
  refine ⟨i, h1, h2.imp ?_ ?_⟩
  · rintro ⟨a, vs, e, h⟩; exact ⟨a, vs, e, h.mono hp⟩
  · rintro ⟨a, h⟩; exact ⟨a, h.mono hp⟩

theorem VRs.single {μ : Mu} {v : V} {l : List Value} (h : VRs μ [v] l) : ∃ c, l = [c] ∧ VR μ v c := by
  simp only [VRs] at h
  obtain ⟨c, r, rfl, h1, rfl⟩ := h
  exact ⟨c, rfl, h1⟩

theorem trod_arg (fit : Fits P T) {D : Type} {enc : TypeId × Value → D} {w : World} {n t : Nat} {v : Value} {d : DataW D} {ps : List MemPlace} {base : Nat} (hr : readable T n t = true) (hok : Value.okWide P w .any base t v)
    (h : DataW.Trod enc P w 0 (fun _ => true) true t v d ps) (hw : ∀ m ∈ d.weights P t, m ≤ reachBytes) {μ : Mu} {K : Heap} (s : Sim μ K w) (ro : Ro K) :
    ∃ μ' K' u, Sim μ' K' w ∧ Ro K' ∧ Mu.Le μ μ' ∧ K <+: K' ∧ VR μ' u v ∧ RdV T K' t u d := by
  obtain ⟨fuel, h⟩ := h
  obtain ⟨μ', K', s', ro', hle, hpre, vs, h1, h2, h3⟩ := trod_sees fit fuel n t _ d ps hr h hw μ K s ro
  cases n with
  | zero => cases hr
  | succ n =>
  unfold readable at hr
  split at hr
  · rename_i i hT
    have hk := (fit t i hT).kind
    have plain : ∀ {u : V} {ty : TypeDesc}, P.underlying t = some ty → (∀ F, ty ≠ .struct F) → (∀ n e, ty ≠ .array n e) → (∃ x, v.cells = #[x] ∧ v = x) → i.k.agg = false → ∃ u, VR μ' u v ∧ RdV T K' t u d := by
      rintro _ ty hu hs ha ⟨x, hx, rfl⟩ hagg
      rw [hx] at h1
      have hl := h1.length
      match vs, hl, h1, h3 with
      | [u], _, h1, h3 =>
        obtain ⟨c, hc, hvr⟩ := h1.single
        simp only [List.cons.injEq, and_true] at hc
        subst hc
        exact ⟨u, hvr, i, hT, .inr ⟨hagg, h3⟩⟩
    suffices hfin : ∃ u, VR μ' u v ∧ RdV T K' t u d by
      obtain ⟨u, a, b⟩ := hfin
      exact ⟨μ', K', u, s', ro', hle, hpre, a, b⟩
    split at hr
    · rename_i hik
      rw [hik] at hk
      obtain ⟨b, rfl⟩ := okWide_bool hk hok
      exact plain (u := V.undef) hk nofun nofun ⟨_, rfl, rfl⟩ (by rw [hik]; rfl)
    · rename_i k hik
      rw [hik] at hk
      obtain ⟨b, rfl⟩ := okWide_int hk hok
      exact plain (u := V.undef) hk nofun nofun ⟨_, rfl, rfl⟩ (by rw [hik]; rfl)
    · rename_i hik
      rw [hik] at hk
      obtain ⟨b, rfl⟩ := okWide_string hk hok
      exact plain (u := V.undef) hk nofun nofun ⟨_, rfl, rfl⟩ (by rw [hik]; rfl)
    · rename_i e hik
      rw [hik] at hk
      obtain ⟨a, len, cap, rfl⟩ := okWide_slice hk hok
      exact plain (u := V.undef) hk nofun nofun ⟨_, rfl, rfl⟩ (by rw [hik]; rfl)
    · rename_i fs hik
      rw [hik] at hk
      obtain ⟨F, _, hu, _⟩ := hk
      obtain ⟨cs, rfl, _⟩ := okWide_struct hu hok
      refine ⟨.agg vs, ?_, i, hT, .inl ⟨by rw [hik]; rfl, vs, rfl, h3⟩⟩
      simp only [VR]
      exact ⟨cs, rfl, h2, h1⟩
    · cases hr
  · cases hr

theorem trod_args (fit : Fits P T) {D : Type} {enc : TypeId × Value → D} {w : World} {n base : Nat} : ∀ {ts : List TypeId} {vs : List Value} {ds : List (DataW D)} {ps : List MemPlace}, DataW.TrodAll enc P w 0 (fun _ => true) true ts vs ds ps →
    (∀ t ∈ ts, readable T n t = true) → (∀ (j : Nat) t v, ts[j]? = some t → vs[j]? = some v → Value.okWide P w .any base t v) → (∀ (j : Nat) t d, ts[j]? = some t → ds[j]? = some d → ∀ m ∈ d.weights P t, m ≤ reachBytes) → ∀ {μ : Mu} {K : Heap}, Sim μ K w → Ro K →
    ∃ (μ' : Mu) (K' : Heap) (us : List V), Sim μ' K' w ∧ Ro K' ∧ Mu.Le μ μ' ∧ K <+: K' ∧ VRs μ' us vs ∧ RdAll T K' ts us ds
  | [], vs, ds, ps, h, _, _, _, μ, K, s, ro => by
    obtain ⟨rfl, rfl, rfl⟩ := trodAll_nil h
    exact ⟨μ, K, [], s, ro, Mu.Le.refl _, List.prefix_refl _, by simp [VRs], trivial⟩
  | t :: ts, vs, ds, ps, h, hr, hok, hw, μ, K, s, ro => by
    obtain ⟨v, vs', d, ds', p, q, rfl, rfl, rfl, h1, h2⟩ := trodAll_cons h
    obtain ⟨μ1, K1, u, s1, r1, l1, p1, a1, b1⟩ := trod_arg fit (hr t (by simp)) (hok 0 t v rfl rfl) h1 (hw 0 t d rfl rfl) s ro
    obtain ⟨μ2, K2, us, s2, r2, l2, p2, a2, b2⟩ := trod_args fit h2 (fun t ht => hr t (by simp [ht])) (fun j t v ht hv => hok (j + 1) t v (by simpa using ht) (by simpa using hv)) (fun j t d ht hd => hw (j + 1) t d (by simpa using ht) (by simpa using hd)) s1 r1
    refine ⟨μ2, K2, u :: us, s2, r2, l1.trans l2, p1.trans p2, ?_, b1.mono p2, b2⟩
    simp only [VRs]
    exact ⟨v, vs', rfl, a1.mono l2, a2⟩

theorem trod_back {D : Type} {enc : TypeId × Value → D} (hl : laidOutB P = true) {W W' : World} (hb : Below W.heap.size W W') : ∀ {ts : List TypeId} {vs : List Value} {ds : List (DataW D)} {ps : List MemPlace}, DataW.TrodAll enc P W 0 (fun _ => true) true ts vs ds ps →
    (∀ t ∈ ts, P.readableRec t = true ∧ t < P.types.size) → (∀ x ∈ ps, x.block < W.heap.size) → DataW.TrodAll enc P W' 0 (fun b => decide (b < W.heap.size)) true ts vs ds ps
  | [], vs, ds, ps, h, _, _ => by
    obtain ⟨rfl, rfl, rfl⟩ := trodAll_nil h
    exact trodAll_mk0
  | t :: ts, vs, ds, ps, h, hr, hlt => by
    obtain ⟨v, vs', d, ds', p, q, rfl, rfl, rfl, h1, h2⟩ := trodAll_cons h
    exact ⟨p, q, Below.trod hl (hr t (by simp)).1 (hr t (by simp)).2 h1 hb (fun x hx => hlt x (by simp [hx])), trod_back hl hb h2 (fun t ht => hr t (by simp [ht])) (fun x hx => hlt x (by simp [hx])), rfl⟩

theorem trodAll_len {D : Type} {enc : TypeId × Value → D} {w : World} {b : Nat} {sp : Nat → Bool} {hd : Bool} : ∀ {ts : List TypeId} {vs : List Value} {ds : List (DataW D)} {ps : List MemPlace}, DataW.TrodAll enc P w b sp hd ts vs ds ps → ds.length = ts.length
  | [], _, _, _, h => by obtain ⟨_, rfl, _⟩ := trodAll_nil h; rfl
  | _ :: _, _, _, _, h => by obtain ⟨_, _, _, _, _, _, rfl, rfl, _, _, h2⟩ := trodAll_cons h; simp [trodAll_len h2]

theorem sim_none (w : World) : Sim (fun _ => none) [] w := ⟨nofun, nofun, nofun, nofun, nofun, nofun⟩

/-- a law's spec: whatever the input, true; the input reads as it did -/
def TrueSpec (s : ChangeSpec) (n : Nat) : Prop := s.vars = [] ∧ ∀ (D : Type) (ds : List (DataW D)), ds.length = n → (s.fn D ds).results = [.lit (.bool true)] ∧ (s.fn D ds).args = ds ∧ (s.fn D ds).vars = []

/-- THE CONTRACT OF A LAW -/
theorem law_contract (fit : Fits P T) (hl : laidOutB P = true) {f : Nat} {fn : Func} {s : ChangeSpec} {n rt : Nat} (hrt : fn.resultTypes = #[rt]) (hb : P.underlying rt = some .bool)
    (hts : ∀ t ∈ fn.params.toList, readable T n t = true ∧ P.readableRec t = true ∧ t < P.types.size) (hs : TrueSpec s fn.params.size)
    {D : Type} {enc : TypeId × Value → D} {W : World} {base : Nat} {args : Array Value} {ds gs : List (DataW D)} {before : List MemPlace}
    (hval : ∀ (j : Nat) t v, fn.params[j]? = some t → args[j]? = some v → Value.okWide P W .any base t v)
    (hW : DataW.Whole enc P fn.params.toList s.vars false W args.toList ds gs before)
    (hsz : (DataW.weightsEach P (fn.params.toList ++ s.plain.varTypes P) (ds ++ gs)).all (· ≤ reachBytes) = true)
    (main : ∀ (K : Heap) (vs : List V), Ro K → RdAll T K fn.params.toList vs ds → ∃ K', Call P f vs K (.bool true) K') :
    Calls P f args W fun e W' => ∃ v, e = .returned v ∧ s.post enc P fn false true false false W args v W' := by
  have hW' := hW
  obtain ⟨p, q, hA, hV, rfl, hfz, hnd⟩ := hW
  obtain ⟨hs1, hs2⟩ := hs
  rw [hs1] at hV
  obtain ⟨rfl, rfl⟩ := trodVars_none hV
  have hlen := trodAll_len hA
  obtain ⟨μ, K, us, s0, ro, _, _, hu, hrd⟩ := trod_args fit hA (fun t ht => (hts t ht).1) (fun j t v ht hv => hval j t v (by simpa using ht) (by simpa using hv)) (fun j t d ht hd m hm => by
    have := List.all_eq_true.1 hsz m (DataW.weights_mem_each (j := j) (t := t) (d := d) (by rw [List.getElem?_append_left (List.getElem?_eq_some_iff.1 ht).1]; exact ht) (by simpa using hd) m hm)
    simpa using this) (sim_none W) (fun b k hk => by simp at hk)
  obtain ⟨K', hc⟩ := main K us ro hrd
  refine (hc.2 μ W args s0 hu).mono ?_
  rintro e W' ⟨cv, μ', rfl, hv, _, tr⟩
  simp only [VR] at hv
  subst hv
  have bel : Below W.heap.size W W' := ⟨tr.os, tr.tape, tr.output, tr.size, fun B hB => tr.frame B hB fun b x k hx hk ho => by have := ro b k hk; rw [this] at ho; cases ho⟩
  obtain ⟨g1, g2, g3⟩ := hs2 D (ds ++ []) (by simp [hlen])
  refine ⟨_, rfl, ds, [], p ++ [], [], p, [], hW', ?_, ?_, ?_, bel.frame _, fun h => by cases h⟩
  · rw [g1, hrt]
    exact trodAll_mk1 (shut_bool hb true)
  · rw [g2, List.append_nil]
    exact trod_back hl bel hA (fun t ht => (hts t ht).2) (fun x hx => hW'.lt x (by simp [hx]))
  · rw [hs1, g3]
    exact rfl

section
variable {H : Type} {enc : TypeId × Value → H}
/-- the second form's step, with what the input weighs -/
theorem cond_sized {a : Assume} {C : Checked} {os : Os} {f : FuncId} {fn : Func} {s : OpenSpec} {k : (H : Type) → List (DataW H) → Bool} (hk : s.cond = some k) {F : Stop.Interp} {conds : List PathCond} {apart fresh handsOn again : Bool}
    (own : ownKnob C.prog.godebug = none) (started : os.Started) (noInit : C.prog.inits.idxOf? f = none) (hfn : C.prog.funcs[f]? = some fn)
    (witness : ∃ (w : World) (tape : Tape) (i : Input), w.os = os ∧ (w.forCall tape i).Shaped C.prog ∧ i.vars = [] ∧ Input.okWide C.prog (w.forCall tape i) .any w.heap.size f i ∧
      s.pre6 enc C.prog fn conds apart (w.forCall tape i).memory i.args ∧ a.holds C.prog (lone (Frame.enter C.prog f i.args .normal) [] (w.forCall tape i)))
    (contract : ∀ (W : World) (base : Nat) (args : Array Value) (ds gs : List (DataW H)) (before : List MemPlace),
      (∀ (j : Nat) t v, fn.params[j]? = some t → args[j]? = some v → Value.okWide C.prog W .any base t v) →
      DataW.Whole enc C.prog fn.params.toList s.vars apart W args.toList ds gs before → k H (ds ++ gs) = true →
      (DataW.weightsEach C.prog (fn.params.toList ++ s.bare.plain.varTypes C.prog) (ds ++ gs)).all (· ≤ reachBytes) = true →
      Calls C.prog f args W fun e W' => ∃ v, e = .returned v ∧ (s.at F).post enc C.prog fn apart fresh handsOn again W args v W') :
    ReturnsInHanded a C os f .any (s.pre6 enc C.prog fn conds apart) ((s.at F).post enc C.prog fn apart fresh handsOn again) := by
  refine returnsInHanded_of_calls own started noInit witness ?_
  intro w tape i _ _ _ hok hpre hholds
  obtain ⟨_, _, _, fn', hfn', _, _, _, _, hval⟩ := hok
  have e : fn' = fn := Option.some.inj (hfn'.symm.trans hfn)
  subst e
  obtain ⟨ds, gs, before, hw, hc, hkk⟩ := (OpenSpec.pre_some hk conds apart _ _).1 hpre.1
  have hz := hpre.2
  have hw' := DataW.Whole.of_heap (w' := w.forCall tape i) (by rfl) hw
  refine (contract (w.forCall tape i) w.heap.size i.args ds gs before hval hw' hkk (hz.weights hw)).mono fun e W' ⟨v, he, hp⟩ => ?_
  subst he
  exact ChangeSpec.post_blind hp
end

end Go.Proofs.Ytjageapgbpdlhaa.VM
