/- THE SMALL MACHINE, part Q: a table of types, checked; '==' of structs. -/
import Derived.Test.YtjageapgbpdlhaaVmP
import Derived.Laws.StructEq
namespace Go.Proofs.Ytjageapgbpdlhaa.VM
open Go
set_option linter.unusedVariables false
set_option linter.unusedSimpArgs false

variable {P : Program} {T : Tab}

def V.same : V → V → Bool
  | .int k a, .int k' b => decide (k = k') && decide (a = b)
  | .bool a, .bool b => a == b
  | .str a, .str b => decide (a = b)
  | .nilp, .nilp => true
  | .nils, .nils => true
  | _, _ => false
def V.sames : List V → List V → Bool
  | [], [] => true
  | a :: as, b :: bs => V.same a b && V.sames as bs
  | _, _ => false

theorem V.same_eq {a b : V} (h : V.same a b = true) : a = b := by
  unfold V.same at h
  split at h <;> simp_all
theorem V.sames_eq : ∀ {as bs : List V}, V.sames as bs = true → as = bs
  | [], [], _ => rfl
  | a :: as, b :: bs, h => by
    simp only [V.sames, Bool.and_eq_true] at h
    rw [V.same_eq h.1, V.sames_eq h.2]
  | [], _ :: _, h => by simp [V.sames] at h
  | _ :: _, [], h => by simp [V.sames] at h

def kindB (P : Program) (t : Nat) : TK → Bool
  | .bool => match P.underlying t with | some .bool => true | _ => false
  | .int k => match P.underlying t with | some (.int k') => decide (k' = k) | _ => false
  | .str => match P.underlying t with | some .string => true | _ => false
  | .strct fs => match P.underlying t with | some (.struct F) => decide (F.toList.map (fun f => (f.type, f.offset)) = fs) && F.toList.all (fun f => (P.info? f.type).isSome) | _ => false
  | .arr n e => match P.underlying t with | some (.array n' e') => decide (n' = n) && decide (e' = e) | _ => false
  | .slice e => match P.underlying t with | some (.slice e') => decide (e' = e) | _ => false
  | .ptr => match P.underlying t with | some (.pointer _) => true | _ => false
  | .map => match P.underlying t with
    | some (.map k e) => (match P.underlying k with | some (.int .i64) => true | _ => false) && (match P.info? e with | some q => (match q.zero with | some (.int .i64 n) => decide (n = 0) | _ => false) | none => false)
    | _ => false
  | .other => match P.underlying t with | some (.struct _) | some (.array ..) | none => false | _ => true

theorem mapM_of_all {α β : Type} {f : α → Option β} : ∀ {l : List α}, l.all (fun a => (f a).isSome) = true → ∃ ys, l.mapM f = some ys
  | [], _ => ⟨[], rfl⟩
  | a :: l, h => by
    simp only [List.all_cons, Bool.and_eq_true] at h
    obtain ⟨y, hy⟩ := Option.isSome_iff_exists.1 h.1
    obtain ⟨ys, hys⟩ := mapM_of_all h.2
    exact ⟨y :: ys, by rw [List.mapM_cons, hy, hys]; rfl⟩

theorem kind_of {t : Nat} {k : TK} (h : kindB P t k = true) : k.fits P t := by
  cases k with
  | bool => simp only [kindB] at h; simp only [TK.fits]; split at h <;> first | assumption | cases h
  | int k => simp only [kindB] at h; simp only [TK.fits]; split at h <;> first | (simp only [decide_eq_true_eq] at h; subst h; assumption) | cases h
  | str => simp only [kindB] at h; simp only [TK.fits]; split at h <;> first | assumption | cases h
  | strct fs =>
    simp only [kindB] at h; simp only [TK.fits]
    split at h
    · rename_i F hu
      simp only [Bool.and_eq_true, decide_eq_true_eq] at h
      obtain ⟨ys, hys⟩ := mapM_of_all (f := fun f : Field => (P.info? f.type).map fun i => (f.offset, i.size)) (l := F.toList) (by simpa using h.2)
      exact ⟨F, ys, hu, h.1, hys⟩
    · cases h
  | arr n e => simp only [kindB] at h; simp only [TK.fits]; split at h <;> first | (simp only [Bool.and_eq_true, decide_eq_true_eq] at h; obtain ⟨rfl, rfl⟩ := h; assumption) | cases h
  | slice e => simp only [kindB] at h; simp only [TK.fits]; split at h <;> first | (simp only [decide_eq_true_eq] at h; subst h; assumption) | cases h
  | ptr => simp only [kindB] at h; simp only [TK.fits]; split at h <;> first | exact ⟨_, by assumption⟩ | cases h
  | map =>
    simp only [kindB] at h; simp only [TK.fits]
    split at h
    · rename_i k e hu
      simp only [Bool.and_eq_true] at h
      obtain ⟨h1, h2⟩ := h
      split at h1
      · rename_i hk
        split at h2
        · rename_i q hq
          split at h2
          · rename_i n hz
            simp only [decide_eq_true_eq] at h2
            subst h2
            exact ⟨k, e, q, hu, hk, hq, hz⟩
          · cases h2
        · cases h2
      · cases h1
    · cases h
  | other =>
    simp only [kindB] at h; simp only [TK.fits]
    split at h
    · cases h
    · cases h
    · cases h
    · rename_i d h1 h2 h3
      cases hu : P.underlying t with
      | none => exact absurd hu h3
      | some d => exact ⟨d, rfl, fun F e => h1 F (by rw [hu, e]), fun n e he => h2 n e (by rw [hu, he])⟩

def infoB (P : Program) (t : Nat) (i : TI) : Bool :=
  match P.info? t with
  | some q => decide (q.size = i.size) && decide (q.bytes = i.bytes) && (match q.zero with | some z => (match V.ofs z.cells.toList with | some vs => V.sames vs i.zero | none => false) | none => false) && decide (i.zero.length = i.size)
  | none => false

def CK.of : TK → Option CK
  | .bool => some .bool
  | .int _ => some .int
  | .str => some .str
  | _ => none

/-- the kinds of the cells of a type whose '==' holds cell against cell -/
def kinds (P : Program) (T : Tab) : Nat → Nat → Option (List CK)
  | 0, _ => none
  | n + 1, t => match T t with
    | some i => match i.k with
      | .strct fs => if P.stoodInHeld t = false ∧ tiles T 0 fs = some i.size ∧ (P.fieldsOf t).toList.all (fun f => decide (f.name ≠ "_")) = true then (fs.mapM fun f => kinds P T n f.1).map List.flatten else none
      | k => if i.size = 1 then (CK.of k).map fun c => [c] else none
    | none => none

def cmpB (P : Program) (T : Tab) (t : Nat) (i : TI) : Bool :=
  match i.cmp with
  | [] => true
  | c :: cs => (match i.k with | .strct _ => true | _ => false) && decide (kinds P T 9 t = some (c :: cs)) && decide (P.eqGuardType P.depth t = false)

theorem eqs_len : ∀ {ks : List CK} {xs ys : List V} {b : Bool}, eqs ks xs ys = some b → xs.length = ks.length ∧ ys.length = ks.length
  | [], [], [], _, _ => ⟨rfl, rfl⟩
  | k :: ks, x :: xs, y :: ys, b, h => by
    simp only [eqs] at h
    split at h
    · rename_i h2
      have := eqs_len h2
      simp [this.1, this.2]
    · cases h
  | [], _ :: _, _, _, h => by simp [eqs] at h
  | [], [], _ :: _, _, h => by simp [eqs] at h
  | _ :: _, [], _, _, h => by simp [eqs] at h
  | _ :: _, _ :: _, [], _, h => by simp [eqs] at h

theorem eqs_app : ∀ {ks ls : List CK} {xs ys : List V} {b : Bool}, eqs (ks ++ ls) xs ys = some b → ∃ p q, eqs ks (xs.take ks.length) (ys.take ks.length) = some p ∧ eqs ls (xs.drop ks.length) (ys.drop ks.length) = some q ∧ b = (p && q)
  | [], ls, xs, ys, b, h => ⟨true, b, by simp [eqs], by simpa using h, by simp⟩
  | k :: ks, ls, x :: xs, y :: ys, b, h => by
    simp only [List.cons_append, eqs] at h
    split at h
    · rename_i a c h1 h2
      obtain ⟨p, q, g1, g2, rfl⟩ := eqs_app h2
      simp only [Option.some.injEq] at h
      refine ⟨a && p, q, ?_, by simpa using g2, ?_⟩
      · simp only [List.length_cons, List.take_succ_cons, eqs, h1, g1]
      · rw [← h, Bool.and_assoc]
    · cases h
  | _ :: _, _, [], _, _, h => by simp [eqs] at h
  | _ :: _, _, _ :: _, [], _, h => by simp [eqs] at h

theorem kinds_len (hi : ∀ t i, T t = some i → True) : ∀ (n t : Nat) (ks : List CK) (i : TI), kinds P T n t = some ks → T t = some i → ks.length = i.size := by
  intro n
  induction n with
  | zero => intro t ks i h; cases h
  | succ n ih =>
    intro t ks i h hT
    unfold kinds at h
    rw [hT] at h
    simp only at h
    split at h
    · rename_i fs hk
      split at h
      · rename_i hc
        simp only [Option.map_eq_some_iff] at h
        obtain ⟨kss, hm, rfl⟩ := h
        obtain ⟨m1, m2⟩ := mapM_some hm
        have hl := tiles_flat (cs := List.replicate i.size ()) (l := kss.map fun k => List.replicate k.length ()) hc.2.1 (by simp) (by simp [m1]) (fun j f fi x hf hfi hx => by
          simp only [List.getElem?_map, Option.map_eq_some_iff] at hx
          obtain ⟨k, hk, rfl⟩ := hx
          obtain ⟨k', hk', hq⟩ := m2 j f hf
          rw [hk] at hk'
          obtain rfl := Option.some.inj hk'
          have := ih f.1 k fi hq hfi
          have hin := tiles_in hc.2.1 hf hfi
          simp only [List.drop_replicate, List.take_replicate, this]
          congr 1
          omega)
        have hl2 := congrArg List.length hl
        simp only [List.length_flatten, List.map_map, List.length_take, List.length_drop, List.length_replicate] at hl2 ⊢
        have e : (List.length ∘ fun k : List CK => List.replicate k.length ()) = List.length := by funext k; simp
        rw [e] at hl2
        omega
      · cases h
    · split at h
      · rename_i hs
        simp only [Option.map_eq_some_iff] at h
        obtain ⟨c, _, rfl⟩ := h
        simp [hs]
      · cases h

/-- '==' of parts -/
theorem eq_parts (hk : ∀ t i, T t = some i → kindB P t i.k = true ∧ infoB P t i = true) : ∀ (n t : Nat) (ks : List CK) (i : TI), kinds P T n t = some ks → T t = some i → ∀ (d : Nat), n ≤ d → ∀ (μ : Mu) (xs ys : List V) (cx cy : List Value) (b : Bool), VRs μ xs cx → VRs μ ys cy → eqs ks xs ys = some b →
    ∀ (X Y : Array Value) (off : Nat), (X.toList.drop off).take i.size = cx → (Y.toList.drop off).take i.size = cy → ∀ w, ∃ a c, (part t X off).run P w = .ok a w ∧ (part t Y off).run P w = .ok c w ∧ (Op.equalIn d t a c).run P w = .ok b w ∧ (∀ fs, i.k = .strct fs → a = .agg cx.toArray ∧ c = .agg cy.toArray) := by
  intro n
  induction n with
  | zero => intro t ks i h; cases h
  | succ n ih =>
    intro t ks i h hT d hd μ xs ys cx cy b hx hy he X Y off hX hY w
    have hlen := kinds_len (P := P) (T := T) (fun _ _ _ => trivial) _ _ _ _ h hT
    have hel := eqs_len he
    obtain ⟨hkind, hinfo⟩ := hk t i hT
    have hfit := kind_of hkind
    unfold kinds at h
    rw [hT] at h
    simp only at h
    obtain ⟨d, rfl⟩ : ∃ e, d = e + 1 := ⟨d - 1, by omega⟩
    have hq : ∃ q, P.info? t = some q ∧ q.size = i.size := by
      unfold infoB at hinfo
      split at hinfo
      · rename_i q hq
        simp only [Bool.and_eq_true, decide_eq_true_eq] at hinfo
        exact ⟨q, hq, hinfo.1.1.1⟩
      · cases hinfo
    obtain ⟨q, hq, hqs⟩ := hq
    split at h
    · rename_i fs hik
      rw [hik] at hfit
      obtain ⟨F, _, hu, hF, _⟩ := hfit
      split at h
      · rename_i hc
        obtain ⟨c1, c2, c3⟩ := hc
        simp only [Option.map_eq_some_iff] at h
        obtain ⟨kss, hm, rfl⟩ := h
        have hpart : ∀ (Z : Array Value) (cz : List Value), (Z.toList.drop off).take i.size = cz → (part t Z off).run P w = .ok (.agg cz.toArray) w := fun Z cz hz => by
          unfold part
          simp only [isAgg, Sem.run_bind, run_und hu, Result.andThen_ok, Sem.run_pure, if_true, run_size hq, hqs]
          congr 2
          apply Array.toList_inj.1
          rw [← hz]
          simp [Array.toList_extract, List.extract_eq_take_drop]
        refine ⟨_, _, hpart X cx hX, hpart Y cy hY, ?_, fun _ _ => ⟨rfl, rfl⟩⟩
        have hfo : P.fieldsOf t = F := by unfold Program.fieldsOf; rw [hu]
        rw [run_equalIn_struct w d t _ _ (by rw [hfo]; exact hu) c1, hfo]
        rw [hfo] at c3
        -- field by field
        have walk : ∀ (fl : List Field) (o : Nat) (kl : List (List CK)) (us vs : List V) (b : Bool), tiles T o (fl.map fun f => (f.type, f.offset)) = some i.size → fl.all (fun f => decide (f.name ≠ "_")) = true →
            (fl.map fun f => (f.type, f.offset)).mapM (fun f => kinds P T n f.1) = some kl → VRs μ us (cx.drop o) → VRs μ vs (cy.drop o) → eqs kl.flatten us vs = some b → (Op.eqFields d cx.toArray cy.toArray fl).run P w = .ok b w := by
          intro fl
          induction fl with
          | nil =>
            intro o kl us vs b _ _ hm _ _ he
            simp at hm
            subst hm
            simp only [List.flatten_nil] at he
            have hl := eqs_len he
            obtain rfl : us = [] := by simpa using hl.1
            obtain rfl : vs = [] := by simpa using hl.2
            simp only [eqs, Option.some.injEq] at he
            subst he
            simp [Op.eqFields]
          | cons f fl ihf =>
            intro o kl us vs b ht hn hm hus hvs he
            simp only [List.map_cons, tiles] at ht
            split at ht
            · rename_i fi hfi
              split at ht
              · rename_i ho
                subst ho
                simp only [List.all_cons, Bool.and_eq_true, decide_eq_true_eq] at hn
                rw [List.map_cons, List.mapM_cons] at hm
                cases hk1 : kinds P T n f.type with
                | none => simp [hk1] at hm
                | some k1 =>
                  cases hk2 : (fl.map fun f => (f.type, f.offset)).mapM (fun f => kinds P T n f.1) with
                  | none => simp [hk1, hk2] at hm
                  | some kr =>
                    simp [hk1, hk2] at hm
                    subst hm
                    have k1l := kinds_len (P := P) (T := T) (fun _ _ _ => trivial) _ _ _ _ hk1 hfi
                    simp only [List.flatten_cons] at he
                    obtain ⟨p, r, e1, e2, rfl⟩ := eqs_app he
                    obtain ⟨a, c, p1, p2, p3, _⟩ := ih f.type k1 fi hk1 hfi d (by omega) μ _ _ _ _ p (hus.take k1.length) (hvs.take k1.length) e1 cx.toArray cy.toArray f.offset (by simp [k1l]) (by simp [k1l]) w
                    have p4 := ihf (f.offset + fi.size) kr _ _ r ht hn.2 hk2 (by rw [← List.drop_drop, ← k1l]; exact hus.drop k1.length) (by rw [← List.drop_drop, ← k1l]; exact hvs.drop k1.length) e2
                    simp only [Op.eqFields, ne_eq, hn.1, not_false_eq_true, if_true, Sem.run_bind, p1, p2, p3, Result.andThen_ok]
                    cases p
                    · simp
                    · simp [p4]
              · cases ht
            · cases ht
        exact walk F.toList 0 kss xs ys b (by rw [hF]; exact c2) c3 (by rw [hF]; exact hm) (by simpa using hx) (by simpa using hy) he
      · cases h
    · rename_i hns
      split at h
      · rename_i hs
        simp only [Option.map_eq_some_iff] at h
        obtain ⟨c, hc, rfl⟩ := h
        match xs, ys, hel, hx, hy, he with
        | [x], [y], _, hx, hy, he =>
          obtain ⟨vx, rfl, rx⟩ := hx.single
          obtain ⟨vy, rfl, ry⟩ := hy.single
          simp only [eqs] at he
          split at he
          · rename_i a b' e1 e2
            simp only [Option.some.injEq] at he e2
            subst e2
            simp only [Bool.and_true] at he
            subst he
            have hX0 : X[off]? = some vx := by
              have := congrArg (fun l => l[0]?) hX
              simpa [List.getElem?_take, hs] using this
            have hY0 : Y[off]? = some vy := by
              have := congrArg (fun l => l[0]?) hY
              simpa [List.getElem?_take, hs] using this
            have leaf : ∀ {ty : TypeDesc}, P.underlying t = some ty → (∀ F, ty ≠ .struct F) → (∀ n e, ty ≠ .array n e) → (Op.equalIn (d + 1) t vx vy).run P w = .ok a w → ∃ a' c', (part t X off).run P w = .ok a' w ∧ (part t Y off).run P w = .ok c' w ∧ (Op.equalIn (d + 1) t a' c').run P w = .ok a w ∧ (∀ fs, i.k = .strct fs → a' = .agg [vx].toArray ∧ c' = .agg [vy].toArray) := fun {ty} hu h1 h2 h3 => by
              have hp : ∀ (Z : Array Value) (v : Value), Z[off]? = some v → (part t Z off).run P w = .ok v w := fun Z v hz => by
                unfold part
                simp only [isAgg, Sem.run_bind, run_und hu, Result.andThen_ok, Sem.run_pure]
                cases ty <;> first | (exact absurd rfl (h1 _)) | (exact absurd rfl (h2 _ _)) | simp [hz]
              exact ⟨_, _, hp X vx hX0, hp Y vy hY0, h3, fun fs hfs => absurd hfs (hns fs)⟩
            cases hik : i.k with
            | bool =>
              rw [hik] at hc hfit
              simp only [CK.of, Option.some.injEq] at hc
              subst hc
              cases x <;> cases y <;> simp only [V.eq1, reduceCtorEq, Option.some.injEq] at e1
              simp only [VR] at rx ry
              subst rx; subst ry; subst e1
              obtain ⟨a', c', q1, q2, q3, _⟩ := leaf hfit nofun nofun (run_equalIn_bool' w d t _ _ hfit)
              exact ⟨a', c', q1, q2, q3, nofun⟩
            | int k =>
              rw [hik] at hc hfit
              simp only [CK.of, Option.some.injEq] at hc
              subst hc
              cases x <;> cases y <;> simp only [V.eq1, reduceCtorEq, Option.some.injEq] at e1
              split at e1
              · rename_i hkk
                subst hkk
                simp only [Option.some.injEq] at e1
                simp only [VR] at rx ry
                subst rx; subst ry; subst e1
                obtain ⟨a', c', q1, q2, q3, _⟩ := leaf hfit nofun nofun (run_equalIn_int w d t _ _ _ _ hfit)
                exact ⟨a', c', q1, q2, q3, nofun⟩
              · cases e1
            | str =>
              rw [hik] at hc hfit
              simp only [CK.of, Option.some.injEq] at hc
              subst hc
              cases x <;> cases y <;> simp only [V.eq1, reduceCtorEq, Option.some.injEq] at e1
              simp only [VR] at rx ry
              subst rx; subst ry; subst e1
              obtain ⟨a', c', q1, q2, q3, _⟩ := leaf hfit nofun nofun (run_equalIn_string w d t _ _ hfit)
              exact ⟨a', c', q1, q2, q3, nofun⟩
            | strct fs => exact absurd hik (hns fs)
            | arr => rw [hik] at hc; cases hc
            | slice => rw [hik] at hc; cases hc
            | ptr => rw [hik] at hc; cases hc
            | map => rw [hik] at hc; cases hc
            | other => rw [hik] at hc; cases hc
          · cases he
        | [], _, h, _, _, _ => simp at h
        | _ :: _ :: _, _, h, _, _, _ => simp at h
        | [_], [], h, _, _, _ => simp at h
        | [_], _ :: _ :: _, h, _, _, _ => simp at h
      · cases h

/-- a row of types, each checked -/
def tabB (P : Program) (T : Tab) : Nat → List (Option TI) → Bool
  | _, [] => true
  | t, none :: r => tabB P T (t + 1) r
  | t, some i :: r => kindB P t i.k && infoB P t i && cmpB P T t i && tabB P T (t + 1) r

theorem tabB_at : ∀ {l : List (Option TI)} {t j : Nat} {i : TI}, tabB P T t l = true → l[j]? = some (some i) → (kindB P (t + j) i.k = true ∧ infoB P (t + j) i = true) ∧ cmpB P T (t + j) i = true
  | [], _, _, _, _, h => by simp at h
  | none :: r, t, j, i, hb, h => by
    cases j with
    | zero => simp at h
    | succ j =>
      have := tabB_at (l := r) (t := t + 1) (j := j) (i := i) hb (by simpa using h)
      rwa [show t + 1 + j = t + (j + 1) by omega] at this
  | some k :: r, t, j, i, hb, h => by
    simp only [tabB, Bool.and_eq_true] at hb
    cases j with
    | zero => simp at h; subst h; exact hb.1
    | succ j =>
      have := tabB_at (l := r) (t := t + 1) (j := j) (i := i) hb.2 (by simpa using h)
      rwa [show t + 1 + j = t + (j + 1) by omega] at this

/-- A TABLE THAT IS CHECKED FITS -/
theorem fits_of {l : List (Option TI)} (hT : T = fun t => (l[t]?).join) (h : tabB P T 0 l = true) : Fits P T := by
  have get : ∀ t i, T t = some i → l[t]? = some (some i) := fun t i ht => by
    rw [hT] at ht
    cases hl : l[t]? with
    | none => simp [hl] at ht
    | some o => simp [hl] at ht; rw [ht]
  have hall : ∀ t i, T t = some i → (kindB P t i.k = true ∧ infoB P t i = true) ∧ cmpB P T t i = true := fun t i ht => by
    have := tabB_at h (get t i ht)
    rwa [Nat.zero_add] at this
  intro t i ht
  obtain ⟨⟨h1, h2⟩, h3⟩ := hall t i ht
  refine ⟨?_, kind_of h1, fun hc μ xs ys cx cy b hx hy he w => ?_⟩
  · unfold infoB at h2
    split at h2
    · rename_i q hq
      simp only [Bool.and_eq_true, decide_eq_true_eq] at h2
      obtain ⟨⟨⟨a1, a2⟩, a3⟩, a4⟩ := h2
      split at a3
      · rename_i z hz
        split at a3
        · rename_i vs hvs
          obtain rfl := V.sames_eq a3
          exact ⟨q, z, hq, a1, a2, hz, fun μ => (VRs.of_const _ hvs).1, (VRs.of_const (μ := fun _ => none) _ hvs).2, a4⟩
        · cases a3
      · cases a3
    · cases h2
  · unfold cmpB at h3
    split at h3
    · rename_i e; exact absurd e hc
    · rename_i c cs e
      simp only [Bool.and_eq_true, decide_eq_true_eq] at h3
      obtain ⟨⟨h0, h3⟩, h4⟩ := h3
      rw [e] at he
      have hl := kinds_len (P := P) (T := T) (fun _ _ _ => trivial) _ _ _ _ h3 ht
      have hel := eqs_len he
      have hxl := hx.length
      have hyl := hy.length
      have hX : (cx.toList.drop 0).take i.size = cx.toList := by rw [List.drop_zero, List.take_of_length_le (by omega)]
      have hY : (cy.toList.drop 0).take i.size = cy.toList := by rw [List.drop_zero, List.take_of_length_le (by omega)]
      obtain ⟨a, k, p1, p2, p3, p4⟩ := eq_parts (fun t i ht => (hall t i ht).1) 9 t _ i h3 ht Op.maxDepth (by decide) μ xs ys _ _ b hx hy he cx cy 0 hX hY w
      refine ⟨?_, fun op x y => run_eqGuard_agg w op t x y cx cy h4⟩
      split at h0
      · rename_i fs hk
        obtain ⟨rfl, rfl⟩ := p4 fs hk
        simpa [Op.equal] using p3
      · cases h0

end Go.Proofs.Ytjageapgbpdlhaa.VM
