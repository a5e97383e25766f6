/- Joined texts: MemB, HelpC, StoreF, StoreG, RankA, StepS, StepT, StepU, RowD, StepV, StepA, CtlF, CtlG, FoldV, FoldW, CtlH, StepD, StepH, StepI, RankD, ChoiceB, StepJ, StepK, StepL, StepM, StepN, StepO. -/
import Derived.Test.YtaofdhgkgklppaaGreatJB1
import Derived.Test.YtaofdhgkgklppaaGreatJB2
import Derived.Test.YtaofdhgkgklppaaGreatJB3
import Derived.Test.YtaofdhgkgklppaaGreatJB4
import Derived.Test.YtaofdhgkgklppaaGreatJB5
import Derived.Test.YtaofdhgkgklppaaGreatJB6
import Derived.Test.YtaofdhgkgklppaaGreatJB7
import Derived.Test.YtaofdhgkgklppaaGreatJB8
import Derived.Test.YtaofdhgkgklppaaGreatJB9
import Derived.Test.YtaofdhgkgklppaaGreatJB10
import Derived.Test.YtaofdhgkgklppaaGreatJB11
import Derived.Test.YtaofdhgkgklppaaGreatJB12
import Derived.Test.YtaofdhgkgklppaaGreatJB13
namespace Go.Proofs.YtaofdhgkgklppaaGreat.VM
open Go
set_option linter.unusedVariables false
set_option linter.unusedSimpArgs false
variable {P : Program} {T : Tab} {α β : Type}
section steps
variable {ops : Array Oper} {rest : List Oper} {Q : Rho → Heap → Prop} {ρ : Rho} {h h' B : Heap} {v a w : V} {k : Nat} {d : Option Nat} {op : Op} {t t' : Nat} {p : String} {af : Array Edge} {L : List Res} {f : Res → List Res} {x y : Operand} {cs ds cs' : List V} {i ie : TI} {ps : List PendR}
theorem e_newM (hT : T t' = some i) (hz : i.zero = cs) (hw : ∀ b h', Mem B h' (.box b cs :: L) → (∀ p ∈ ps, p.holds T h') ∧ wqE P T ops (k + 1) rest ps Q (ρ.put d (.ptr b 0)) h') (hM : Mem B h L := by assumption) (hl : lateAt ops k = false := by decide +kernel) : wqE P T ops k (⟨d, .alloc t', t, p, af, none⟩ :: rest) ps Q ρ h := by
 subst hz
 have h2 := hw _ _ (hM.new i.zero)
 exact e_store hl (s_alloc hT) h2.1 h2.2
theorem e_putM {b off : Nat} (hT : T t' = some i) (hw : ∀ h', Mem B h' (f (.box b cs')) → (∀ p ∈ ps, p.holds T h') ∧ wqE P T ops (k + 1) rest ps Q (ρ.put d V.undef) h') (hM : Mem B h L := by assumption) (hl : lateAt ops k = false := by decide +kernel) (hx : ρ.ev x = some (.ptr b off) := by exact eLk) (hy : ρ.ev y = some a := by exact eLk) (hh : Has L (.box b cs) f := by (repeat (first | exact Has.here | apply Has.there)))
  (hc : a.cells = ds := by exact (by first | (simp only [*]; first | done | rfl) | (simp only [V.cells]; first | done | rfl))) (ht : a.isTup = false := by first | rfl | simp only [*]) (hl2 : ds.length = i.size := by rfl) (hn : Nat.ble (off + ds.length) cs.length = true := by rfl) (hs : setL cs off ds = cs' := by (simp only [setL, List.set_cons_zero, List.set_cons_succ, Nat.reduceAdd, Nat.zero_add]; first | done | rfl)) : wqE P T ops k (⟨d, .store t' x y, t, p, af, none⟩ :: rest) ps Q ρ h := by
 obtain ⟨H', h1, h2⟩ := hM.put hh hT hc ht hl2 (Nat.le_of_ble_eq_true hn) hs
 have h3 := hw _ h2
 exact e_store hl (s_store hx hy h1) h3.1 h3.2
end steps
end Go.Proofs.YtaofdhgkgklppaaGreat.VM
namespace Go.Proofs.YtaofdhgkgklppaaGreat.VM
open Go
set_option linter.unusedVariables false
set_option linter.unusedSimpArgs false
attribute [local irreducible] wq wqL wqD wqE wqO Th Bk EndR
set_option maxHeartbeats 8000000
theorem spoilIntsM_ (B H : Heap) (L : List Res) (f : Res → List Res) (v : V) (xs : List Int) (hM : Mem B H L) (hh : Has L (.own 1 intC v xs) f) (lx : xs.length ≤ 2 ^ 47) : ∃ w H', Call Tryz.prog 188 [v] H w H' ∧ w = .tup [] ∧ ∃ ys : List Int, ys.length = xs.length ∧ Mem B H' (f (.own 1 intC v ys)) := by
 refine call_turn fit mixed hM Tryz.func188 rfl rfl rfl (by kernel_rfl) fun _ => ?_
 obtain ⟨n, hn⟩ : ∃ n, xs.length = n := ⟨_, rfl⟩
 refine goM ?_
 refine wq_loop (fun c ρ hp => ∃ (k : Nat) (ys : List Int) (L' : List Res), k ≤ n ∧ c = n - k ∧ ys.length = n ∧ Mem B hp L' ∧ Has L' (.own 1 intC v ys) f ∧ ρ 0 = v ∧ ρ 2 = .int .i64 (k : Nat)) ⟨0, xs, L, Nat.zero_le _, rfl, hn, hM, hh, rfl, rfl⟩ ?_
 clear hM hh
 rintro _ ρ hp ⟨k, ys, L', hk, rfl, hys, hM, hh, h0, h2⟩
 have hlen := (hM.sl hh).len T27 rfl
 rw [hys] at hlen
 refine goM ?_
 refine cond_go (fun hb => ?_) (fun hb => ?_)
 ·have hk' : k < n := by simpa using hb
  clear hb
  obtain ⟨x, hxk⟩ : ∃ e, ys[k]? = some e := ⟨ys[k]'(by omega), by simp⟩
  obtain ⟨b, hi, hput⟩ := hM.elem hh T27 rfl T3 rfl (k := k) (by omega)
  obtain ⟨b', o', _, hi', rfl, _, hlo, _⟩ := (hM.sl hh).get T27 rfl T3 rfl hxk
  rw [hi] at hi'
  cases hi'
  have ho := loadV_one T3 rfl hlo
  obtain ⟨H', hst, hM'⟩ := hput (.int .i64 (IntKind.i64.wrap (-9 - x))) _ rfl rfl rfl
  have hw := wrap_succ (n := k) (by omega)
  clear hxk hlo hput
  refine goM ?_
  refine l_stM hst ?_
  refine goM ?_
  exact ⟨n - (k + 1), by omega, k + 1, _, _, hk', rfl, by simpa using hys, hM', hh.again _, by simp [put_app, put_none, *]⟩
 ·clear hb
  refine goM ?_
  refine end_normal (by simp only [resRf, resRs, resR]; first | done | rfl) ⟨rfl, ys, by omega, ?_⟩
  rw [hh.same]; exact hM
theorem spoilCheckM_ (B H : Heap) (L : List Res) (w v : V) (k : Chk) (hM : Mem B H (.own 1 intC w k.ws :: .own 1 intC v k.vs :: L)) (hf : k.Fit) : ∃ u H', Call Tryz.prog 110 [.agg (kC w v k)] H u H' ∧ u = .tup [] ∧ Mem B H' L := by
 have l1 := hf.ws
 have l2 := hf.vs
 have s1 := (hM.sl .here).cells
 have s2 := (hM.sl (.there .here)).cells
 refine call_turn fit mixed hM Tryz.func110 rfl rfl rfl (by kernel_rfl) fun _ => ?_
 refine wq_seq (wq_line ?_)
 refine l_boxM T45 fun b1 H1 hM => ?_
 refine goM ?_
 obtain ⟨_, H2, c1, rfl, ys, hys, hM⟩ := spoilIntsM_ B H1 _ _ w k.ws hM (.there .here) (by omega)
 refine l_callG c1 ?_
 refine goM ?_
 obtain ⟨_, H3, c2, rfl, zs, hzs, hM⟩ := spoilIntsM_ B H2 _ _ v k.vs hM (.there (.there .here)) (by omega)
 refine l_callG c2 ?_
 refine goM ?_
 exact end_normal (by simp only [resRf, resRs, resR]; first | done | rfl) ⟨rfl, hM.subG⟩
theorem copyCheckM_ (H : Heap) (w v : V) (k : Chk) (hk : KAt H w v k) (hf : k.Fit) : ∃ u H', Call Tryz.prog 98 [.agg (kC w v k)] H u H' ∧ ∃ a b, u = .agg (kC a b k) ∧ Mem H H' [.own 1 intC b k.vs, .own 1 intC a k.ws] := by
 have l1 := hf.ws
 have l2 := hf.vs
 have s1 := hk.ws.cells
 have s2 := hk.vs.cells
 refine call_mem fit mixed Tryz.func98 rfl rfl rfl (by kernel_rfl) fun hM => ?_
 refine wq_seq (wq_line ?_)
 refine l_boxM T45 fun b1 H1 hM => ?_
 refine l_newM (cs := zeroChk) T45 rfl fun b2 H2 hM => ?_
 refine goM ?_
 refine l_sliceM intC [] [] T27 rfl T3 rfl (cells_ints []) (by decide) fun e1 H3 hM => ?_
 refine goM ?_
 refine l_appM (hk.ws.mono hM.pre) fun a H4 hM => ?_
 have s3 := (hM.sl .here).cells
 refine goM ?_
 refine l_putM T27 fun H5 hM => ?_
 refine goM ?_
 refine l_sliceM intC [] [] T27 rfl T3 rfl (cells_ints []) (by decide) fun e2 H6 hM => ?_
 refine goM ?_
 refine l_appM (hk.vs.mono hM.pre) fun b H7 hM => ?_
 have s4 := (hM.sl .here).cells
 refine goM ?_
 refine l_putM T27 fun H8 hM => ?_
 refine goM ?_
 refine l_putM T45 fun H9 hM => ?_
 refine goM ?_
 exact end_1 (by first | exact .inl rfl | exact .inr rfl) ⟨a, b, rfl, hM.subG⟩
theorem refDrop15_ (H : Heap) (v : V) (es : List Ent) (id : Int) (hx : Sl 3 entC H v es) (hl : es.length ≤ 2 ^ 47) :
  ∃ w H', Call Tryz.prog 187 [v, .int .i64 id] H w H' ∧ ∃ u, w = .tup [u, .int .i64 (dropS es id).2] ∧ Mem H H' [.own 3 entC u (dropS es id).1] := by
 refine call_mem fit mixed Tryz.func187 rfl rfl rfl (by kernel_rfl) fun hM => ?_
 have c1 := refStoreMay_ H v es hx hl
 cases hm : storeMay es with
 | false =>
  have hr : dropS es id = ([], 1500) := by unfold dropS; rw [if_pos hm]
  rw [hm] at c1
  rw [hr]
  clear hm
  refine goM ?_
  refine l_callG c1 ?_
  refine goM ?_
  exact end_2 (by first | exact .inl rfl | exact .inr rfl) ⟨_, rfl, hM.nil 3 entC⟩
 | true =>
  rw [hm] at c1
  have hdef : ∀ r, (∀ x : List Ent × Int, (match es[findN es id]? with
    | none => ([], 1502)
    | some e => if e.n = 0 then ([], 1502) else (bump es (findN es id) (-1), 0)) = x → x = r) → dropS es id = r := fun r h => h _ (by unfold dropS; rw [if_neg (by rw [hm]; decide)]; cases es[findN es id]? <;> rfl)
  have hs := store_of hm
  have hn64 := hs.len
  obtain ⟨n, hn⟩ : ∃ n, es.length = n := ⟨_, rfl⟩
  rw [hn] at hn64
  clear hm
  refine goM ?_
  refine l_callG c1 ?_
  refine goM ?_
  refine l_sliceM entC [] [] T31 rfl T73 rfl (cells_ents []) (by decide) fun e1 H3 hM => ?_
  refine goM ?_
  refine l_appM (hx.mono hM.pre) (xs := []) (hb := by simp only [List.length_nil]; omega) fun u H1 hM => ?_
  have hlenu := (hM.sl .here).len T31 rfl
  rw [List.nil_append, hn] at hlenu
  rw [List.nil_append] at hM
  clear c1
  refine goM ?_
  refine wq_loop (fun c ρ h => ∃ k : Nat, k ≤ n ∧ c = n - k ∧ h = H1 ∧ (∀ (j : Nat) (x : Ent), j < k → es[j]? = some x → x.id = id → x.n = 0) ∧ ρ 1 = .int .i64 id ∧ ρ 6 = u ∧ ρ 7 = .int .i64 (k : Int)) ⟨0, Nat.zero_le _, rfl, rfl, by intro j x hj; omega, rfl, rfl, rfl⟩ ?_
  rintro _ ρ h ⟨k, hk, rfl, rfl, hall, g1, g6, g7⟩
  refine goM ?_
  refine cond_go (fun hb => ?_) (fun hb => ?_)
  ·have hk' : k < n := by simpa using hb
   clear hb
   obtain ⟨e, he⟩ : ∃ e, es[k]? = some e := ⟨es[k]'(by omega), by simp⟩
   obtain ⟨b, o, hie, _, lo0, _, lo2⟩ := ent_at (hM.sl .here) he
   have hw := wrap_succ (n := k) (by omega)
   obtain ⟨hn0, hn8⟩ := ent_n hs he
   by_cases hgo : e.id = id ∧ e.n ≠ 0
   ·obtain ⟨h1, h2⟩ := hgo
    have d1 : (e.id == id) = true := by simpa using h1
    have d2 : decide (e.n > 0) = true := decide_eq_true (by omega)
    have hF : findN es id = k := by
     unfold findN
     have hlt := (List.getElem?_eq_some_iff.1 he).1
     rw [List.findIdx_eq hlt]
     have hel : es[k] = e := by rw [List.getElem?_eq_getElem hlt] at he; exact Option.some.inj he
     refine ⟨by rw [hel]; exact decide_eq_true h1, fun j hj => ?_⟩
     have := hs.up j k (es[j]'(by omega)) e hj (by simp) he
     rw [h1] at this
     simp; omega
    have hr : dropS es id = (bump es k (-1), 0) := hdef _ fun x hx => by
     rw [hF, he] at hx
     simp only at hx
     rw [if_neg h2] at hx
     exact hx.symm
    rw [hr]
    have wn : IntKind.i64.wrap (e.n - 1) = e.n + -1 := by rw [wrap_i64 (by omega) (by omega)]; omega
    obtain ⟨H2, hst, m2⟩ := hM.bump .here he (-1) hie
    clear hn0 hn8 he hs h1 h2 hM hall hF hdef hr
    refine goM ?_
    refine l_stM hst ?_
    refine goM ?_
    exact end_2 (by first | exact .inl rfl | exact .inr rfl) ⟨_, rfl, m2.sub (by (repeat (first | exact List.Sublist.slnil | exact List.Sublist.refl _ | refine List.Sublist.cons_cons _ ?_ | refine List.Sublist.cons _ ?_)))⟩
   ·have hall2 : ∀ (j : Nat) (x : Ent), j < k + 1 → es[j]? = some x → x.id = id → x.n = 0 := fun j x hj hx hid => by
     rcases Nat.lt_or_eq_of_le (Nat.le_of_lt_succ hj) with h1 | h1
     ·exact hall j x h1 hx hid
     ·subst h1
      rw [he] at hx; cases hx
      exact Classical.not_not.1 fun h => hgo ⟨hid, h⟩
    cases d1 : (e.id == id) with
    | false =>
     clear hn0 hn8 he hs hall hgo hdef
     refine goM ?_
     exact ⟨n - (k + 1), by omega, k + 1, hk', rfl, rfl, hall2, by simp [put_app, put_none, *]⟩
    | true =>
     have h1 : e.id = id := by simpa using d1
     have h2 : e.n = 0 := Classical.not_not.1 fun h => hgo ⟨h1, h⟩
     have d2 : decide (e.n > 0) = false := decide_eq_false (by omega)
     clear hn0 hn8 he hs hall hgo h1 h2 hdef
     refine goM ?_
     exact ⟨n - (k + 1), by omega, k + 1, hk', rfl, rfl, hall2, by simp [put_app, put_none, *]⟩
  ·have hk' : k = n := by have : ¬ k < n := by simpa using hb
                          omega
   subst hk'
   have hr : dropS es id = ([], 1502) := hdef _ fun x hx => by
    cases hf : es[findN es id]? with
    | none => rw [hf] at hx; exact hx.symm
    | some e =>
     have hlt := (List.getElem?_eq_some_iff.1 hf).1
     have hid : e.id = id := by
      have := List.findIdx_getElem (xs := es) (p := fun e : Ent => decide (e.id = id)) (w := hlt)
      have h2 := of_decide_eq_true this
      have hel : es[findN es id] = e := by rw [List.getElem?_eq_getElem hlt] at hf; exact Option.some.inj hf
      rw [← hel]; exact h2
     rw [hf] at hx
     simp only at hx
     rw [if_pos (hall _ e (by omega) hf hid)] at hx
     exact hx.symm
   rw [hr]
   clear hb hall hs hdef hr
   refine goM ?_
   exact end_2 (by first | exact .inl rfl | exact .inr rfl) ⟨.nils, rfl, (hM.sub (L' := []) (by simp)).nil 3 entC⟩
theorem refSweep15_ (H : Heap) (v : V) (es : List Ent) (hx : Sl 3 entC H v es) (hl : es.length ≤ 2 ^ 47) :
  ∃ w H', Call Tryz.prog 186 [v] H w H' ∧ ∃ u, w = .tup [u, .int .i64 (sweepS es).2] ∧ Mem H H' [.own 3 entC u (sweepS es).1] := by
 refine call_mem fit mixed Tryz.func186 rfl rfl rfl (by kernel_rfl) fun hM => ?_
 have c1 := refStoreMay_ H v es hx hl
 unfold sweepS
 cases hm : storeMay es with
 | false =>
  rw [hm] at c1
  rw [if_pos rfl]
  clear hm
  refine goM ?_
  refine l_callG c1 ?_
  refine goM ?_
  exact end_2 (by first | exact .inl rfl | exact .inr rfl) ⟨_, rfl, hM.nil 3 entC⟩
 | true =>
  rw [hm] at c1
  rw [if_neg (by decide)]
  have hs := store_of hm
  have hn64 := hs.len
  obtain ⟨n, hn⟩ : ∃ n, es.length = n := ⟨_, rfl⟩
  have hlen := hx.len T31 rfl
  rw [hn] at hn64 hlen
  clear hm
  refine goM ?_
  refine l_callG c1 ?_
  refine goM ?_
  clear c1
  replace hM := hM.nil 3 entC
  refine wq_loop (fun c ρ h => ∃ (k : Nat) (u : V), k ≤ n ∧ c = n - k ∧ Mem H h [.own 3 entC u ((es.take k).filter fun e => decide (e.n ≠ 0))] ∧ ρ 0 = v ∧ ρ 4 = u ∧ ρ 5 = .int .i64 (k : Int)) ⟨0, .nils, Nat.zero_le _, rfl, by simpa using hM, rfl, rfl, rfl⟩ ?_
  clear hM
  rintro _ ρ h ⟨k, u, hk, rfl, hM, g0, g4, g5⟩
  refine goM ?_
  refine cond_go (fun hb => ?_) (fun hb => ?_)
  ·have hk' : k < n := by simpa using hb
   clear hb
   obtain ⟨e, he⟩ : ∃ e, es[k]? = some e := ⟨es[k]'(by omega), by simp⟩
   obtain ⟨b, o, hie, hlo, _, _, lo2⟩ := ent_at (hx.mono hM.pre) he
   have hw := wrap_succ (n := k) (by omega)
   obtain ⟨hn0, hn8⟩ := ent_n hs he
   have hfs : (es.take (k + 1)).filter (fun e => decide (e.n ≠ 0)) = (es.take k).filter (fun e => decide (e.n ≠ 0)) ++ (if decide (e.n ≠ 0) = true then [e] else []) := by
    rw [List.take_add_one, he, List.filter_append]
    simp [List.filter_cons]
   have hfl : ((es.take k).filter fun e => decide (e.n ≠ 0)).length ≤ 64 := by
    have := List.length_filter_le (fun e : Ent => decide (e.n ≠ 0)) (es.take k)
    rw [List.length_take] at this; omega
   by_cases h0 : e.n = 0
   ·have d0 : decide (e.n > 0) = false := decide_eq_false (by omega)
    rw [if_neg (by simpa using h0), List.append_nil] at hfs
    rw [← hfs] at hM
    clear hn0 hn8 h0 he hfs hfl
    refine goM ?_
    exact ⟨n - (k + 1), by omega, k + 1, u, hk', rfl, hM, by simp [put_app, put_none, *]⟩
   ·have d0 : decide (e.n > 0) = true := decide_eq_true (by omega)
    rw [if_pos (by simpa using h0)] at hfs
    clear hn0 hn8 h0 he
    refine goM ?_
    refine l_sliceM entC [e] (entV e) T31 rfl T73 rfl (cells_ents [e]) (by decide) fun e1 H2 hM => ?_
    refine goM ?_
    refine l_appM (hM.sl .here) (xs := (es.take k).filter fun e => decide (e.n ≠ 0)) (hh := .there .here) (hb := by simp only [List.length_cons, List.length_nil]; omega) fun u2 H6 hM => ?_
    rw [← hfs] at hM
    clear hfs hfl
    refine goM ?_
    exact ⟨n - (k + 1), by omega, k + 1, u2, hk', rfl, hM.drop, by simp [put_app, put_none, *]⟩
  ·have hk' : k = n := by have : ¬ k < n := by simpa using hb
                          omega
   subst hk'
   clear hb
   rw [List.take_of_length_le (by omega)] at hM
   refine goM ?_
   exact end_2 (by first | exact .inl rfl | exact .inr rfl) ⟨_, rfl, hM⟩
theorem spoilEnts_ (B H : Heap) (L : List Res) (f : Res → List Res) (v : V) (xs : List Ent) (hM : Mem B H L) (hh : Has L (.own 3 entC v xs) f) (lx : xs.length ≤ 2 ^ 42) : ∃ w H', Call Tryz.prog 112 [v] H w H' ∧ w = .tup [] ∧ ∃ ys : List Ent, ys.length = xs.length ∧ Mem B H' (f (.own 3 entC v ys)) := by
 refine call_turn fit mixed hM Tryz.func112 rfl rfl rfl (by kernel_rfl) fun _ => ?_
 obtain ⟨n, hn⟩ : ∃ n, xs.length = n := ⟨_, rfl⟩
 refine goM ?_
 refine wq_loop (fun c ρ hp => ∃ (k : Nat) (ys : List Ent) (L' : List Res), k ≤ n ∧ c = n - k ∧ ys.length = n ∧ Mem B hp L' ∧ Has L' (.own 3 entC v ys) f ∧ ρ 0 = v ∧ ρ 2 = .int .i64 (k : Int)) ⟨0, xs, L, Nat.zero_le _, rfl, hn, hM, hh, rfl, rfl⟩ ?_
 clear hM hh
 rintro _ ρ hp ⟨k, ys, L', hk, rfl, hys, hM, hh, h0, h2⟩
 have hlen := (hM.sl hh).len T31 rfl
 rw [hys] at hlen
 refine goM ?_
 refine cond_go (fun hb => ?_) (fun hb => ?_)
 ·have hk' : k < n := by simpa using hb
  clear hb
  obtain ⟨e, he⟩ : ∃ e, ys[k]? = some e := ⟨ys[k]'(by omega), by simp⟩
  obtain ⟨b, o, hi, _, _, _, lo2⟩ := ent_at (hM.sl hh) he
  obtain ⟨b', hix, hput⟩ := hM.elemAt hh T31 rfl T73 rfl he 2 T3 (by decide)
  rw [hi] at hix
  cases hix
  obtain ⟨z, hz⟩ : ∃ z, IntKind.i64.wrap ((BitVec.ofInt IntKind.i64.bits e.n ^^^ BitVec.ofInt IntKind.i64.bits 90).toNat : Int) = z := ⟨_, rfl⟩
  obtain ⟨H', hst, hM'⟩ := hput (.int .i64 z) ⟨e.id, e.tx, z⟩ rfl rfl (fun cs hl hR => by rw [hR]; rfl)
  have hw := wrap_succ (n := k) (by omega)
  clear he hput
  refine goM ?_
  refine l_stM hst ?_
  refine goM ?_
  exact ⟨n - (k + 1), by omega, k + 1, _, _, hk', rfl, by simpa using hys, hM', hh.again _, by simp [put_app, put_none, *]⟩
 ·clear hb
  refine goM ?_
  refine end_normal (by simp only [resRf, resRs, resR]; first | done | rfl) ⟨rfl, ys, by omega, ?_⟩
  rw [hh.same]; exact hM
end Go.Proofs.YtaofdhgkgklppaaGreat.VM
namespace Go.Proofs.YtaofdhgkgklppaaGreat.VM
open Go
set_option linter.unusedVariables false
set_option linter.unusedSimpArgs false
theorem mid_move {row : List Nat} {k : Nat} (y : Nat) (rest : List Nat) (hk : k < row.length) : (mid row (k + 1) y rest).set (k + 1) (row.getD k 0) = mid row k (row.getD k 0) rest := by
 obtain ⟨h1, h2⟩ := mid_split hk
 have hl : (row.take k).length = k := by rw [List.length_take]; omega
 have e1 : mid row (k + 1) y rest = row.take k ++ row.getD k 0 :: y :: (row.drop (k + 1) ++ rest) := by
  unfold mid; rw [h1]; simp
 have e2 : mid row k (row.getD k 0) rest = row.take k ++ row.getD k 0 :: row.getD k 0 :: (row.drop (k + 1) ++ rest) := by
  unfold mid; rw [h2]; simp
 rw [e1, e2, List.set_append_right _ _ (by omega), hl]
 have : k + 1 - k = 1 := by omega
 rw [this]; rfl
theorem mid_put {row : List Nat} {k : Nat} (y x : Nat) (rest : List Nat) (hk : k ≤ row.length) : (mid row k y rest).set k x = mid row k x rest := by
 have hl : (row.take k).length = k := by rw [List.length_take]; omega
 have := set_append_at (row.take k) y x (row.drop k ++ rest)
 rw [hl] at this
 exact this
end Go.Proofs.YtaofdhgkgklppaaGreat.VM
namespace Go.Proofs.YtaofdhgkgklppaaGreat.VM
open Go
set_option linter.unusedVariables false
set_option linter.unusedSimpArgs false
attribute [local irreducible] wq wqL wqD wqE wqO Th Bk EndR
set_option maxHeartbeats 8000000
theorem alone_swap {s : St} (h : StOk s) {p q : Nat} {o r : Chk × Int} (ho : s.ms[p]? = some o) (hr : s.ms[q]? = some r) (hpq : p ≠ q) (ht : o.1.t ≠ s.c.total) (hu : r.1.t ≠ s.c.total) (h1 : (o.1.t + 1).tmod s.c.interval ≠ 0) (h2 : (r.1.t + 1).tmod s.c.interval ≠ 0) (hl : s.es.length + 8 ≤ 1024) :
  (doS (doS s p) q).ms.map (·.1) = (doS (doS s q) p).ms.map (·.1) := by
 rw [(alone h ho hr hpq ht hu h1 h2 hl).2.2, (alone h hr ho (Ne.symm hpq) hu ht h2 h1 hl).2.2, List.set_comm _ _ hpq]
theorem textK_size {c : Cfg} {k : Chk} (h : kFits c k = true) : 18 ≤ (textK k).size := by
 have h2 := kFits_len h
 have hs : (textK k).size = 10 + 8 * k.ws.length := by
  unfold textK
  rw [strOf_size]
  unfold putL
  simp only [List.length_append, lowL_len, lowsL_len, h2.1]
  omega
 omega
theorem new_ents {c : Cfg} (hc : cfgMay c = true) : ∀ i : Nat, i ≤ 8 → ∀ e ∈ (newF c i).2, (0 ≤ e.id ∧ e.id ≤ 8) ∧ ∃ j : Nat, e.tx = textK (firstK c (j : Int))
 | 0, _ => fun e he => by cases he
 | i + 1, hi => fun e he => by
  have ih := new_ents hc i (by omega)
  have hl := (new_ok hc i (by omega)).1.stl
  simp only [newF] at he
  generalize (newF c i).2 = st at *
  rcases put_cases st (textK (firstK c (i : Int))) with ⟨x, hx, hp⟩ | ⟨k, x, hs, hx, hxs, h8, hp⟩ | ⟨hs, _, hno, _, hp⟩
  ·rw [hp] at he; cases he
  ·rw [hp] at he
   obtain ⟨y, hy, e1, e2⟩ := key_mem (bump_key st k 1).symm he
   have := ih y hy
   rw [e1, e2] at this
   exact this
  ·rw [hp] at he
   rcases ins_mem.1 he with he | rfl
   ·exact ih e he
   ·have := (freeN_spec st).1
    exact ⟨by simp only; omega, i, rfl⟩
def fillE (st : List Ent) (k : Nat) : List Ent := st ++ (List.range (k - st.length)).map fun j => spare (st.length + j)
def fillS (c : Cfg) (k : Nat) : St := ⟨c, (newS c).ms, [], fillE (newS c).st k⟩
theorem spare_ne {i j : Nat} (hi : i < 256) (hj : j < 256) (h : (spare i).tx = (spare j).tx) : i = j := by
 have := strOf_get (bs := [(i : Int)]) (by intro b hb; simp at hb; omega) (i := 0) rfl
 have h2 := strOf_get (bs := [(j : Int)]) (by intro b hb; simp at hb; omega) (i := 0) rfl
 have h' : strOf [(i : Int)] = strOf [(j : Int)] := h
 rw [h', h2] at this
 simp only [Option.some.injEq, V.int.injEq, true_and] at this
 omega
theorem fill_mem {st : List Ent} {k : Nat} {e : Ent} : e ∈ fillE st k ↔ e ∈ st ∨ ∃ j, j < k - st.length ∧ e = spare (st.length + j) := by
 unfold fillE
 rw [List.mem_append, List.mem_map]
 constructor
 ·rintro (h | ⟨j, hj, rfl⟩)
  ·exact .inl h
  ·exact .inr ⟨j, List.mem_range.1 hj, rfl⟩
 ·rintro (h | ⟨j, hj, rfl⟩)
  ·exact .inl h
  ·exact .inr ⟨j, List.mem_range.2 hj, rfl⟩
theorem fill_len {st : List Ent} {k : Nat} (h : st.length ≤ k) : (fillE st k).length = k := by
 unfold fillE
 simp only [List.length_append, List.length_map, List.length_range]; omega
theorem fill_store {st : List Ent} (h : Store st) {k : Nat} (hk : k ≤ 64) (hlk : st.length ≤ k) (hid : ∀ e ∈ st, e.id < 100 ∧ 2 ≤ e.tx.size) : Store (fillE st k) := by
 have hsz : ∀ i, (spare i).tx.size = 1 := fun i => by unfold spare; simp only [strOf_size]; rfl
 have u : (fillE st k).Pairwise (fun x y => x.id < y.id) := by
  unfold fillE
  rw [List.pairwise_append]
  refine ⟨List.pairwise_iff_getElem.2 fun i j hi hj hij => h.up i j _ _ hij (List.getElem?_eq_getElem hi) (List.getElem?_eq_getElem hj), ?_, fun a ha b hb => ?_⟩
  ·rw [List.pairwise_map]
   exact List.pairwise_lt_range.imp fun {a b} hab => by show ((100 + (st.length + a) : Nat) : Int) < ((100 + (st.length + b) : Nat) : Int); omega
  ·obtain ⟨j, _, rfl⟩ := List.mem_map.1 hb
   have := (hid a ha).1
   show a.id < ((100 + (st.length + j) : Nat) : Int)
   omega
 have o : (fillE st k).Pairwise (fun x y => x.tx ≠ y.tx) := by
  unfold fillE
  rw [List.pairwise_append]
  refine ⟨List.pairwise_iff_getElem.2 fun i j hi hj hij ht => ?_, ?_, fun a ha b hb ht => ?_⟩
  ·have := h.one i j _ _ (List.getElem?_eq_getElem hi) (List.getElem?_eq_getElem hj) ht
   omega
  ·rw [List.pairwise_map]
   refine (List.Pairwise.and_mem.1 List.pairwise_lt_range).imp fun {a b} hab ht => ?_
   obtain ⟨ha, hb, hab⟩ := hab
   rw [List.mem_range] at ha hb
   have := spare_ne (by omega) (by omega) ht
   omega
  ·obtain ⟨j, _, rfl⟩ := List.mem_map.1 hb
   have := (hid a ha).2
   rw [ht, hsz] at this
   omega
 refine ⟨by rw [fill_len hlk]; exact hk, fun e he => ?_, fun i j x y hij hx hy => ?_, fun i j x y hx hy ht => ?_⟩
 ·rcases fill_mem.1 he with he | ⟨j, hj, rfl⟩
  ·exact h.ok e he
  ·unfold entOk textOk
   rw [hsz]
   simp only [Bool.and_eq_true, within_iff, spare]
   refine ⟨⟨by omega, by decide⟩, by decide⟩
 ·obtain ⟨hi, rfl⟩ := List.getElem?_eq_some_iff.1 hx
  obtain ⟨hj, rfl⟩ := List.getElem?_eq_some_iff.1 hy
  exact List.pairwise_iff_getElem.1 u i j hi hj hij
 ·obtain ⟨hi, rfl⟩ := List.getElem?_eq_some_iff.1 hx
  obtain ⟨hj, rfl⟩ := List.getElem?_eq_some_iff.1 hy
  rcases Nat.lt_trichotomy i j with h' | h' | h'
  ·exact absurd ht (List.pairwise_iff_getElem.1 o i j hi hj h')
  ·exact h'
  ·exact absurd ht.symm (List.pairwise_iff_getElem.1 o j i hj hi h')
theorem fill_ok {c : Cfg} (hc : cfgMay c = true) {k : Nat} (hk : k ≤ 64) (h8 : 8 ≤ k) : StOk (fillS c k) ∧ (fillS c k).st.length = k := by
 obtain ⟨hm, _⟩ := cfgMay_split hc
 have hs := stOk_of (newS_may hc)
 have hl : (newS c).st.length ≤ 8 := by have := (new_ok hc c.m.toNat (by omega)).1.stl; show (newF c c.m.toNat).2.length ≤ 8; omega
 have hid : ∀ e ∈ (newS c).st, e.id < 100 ∧ 2 ≤ e.tx.size := fun e he => by
  obtain ⟨h1, j, h2⟩ := new_ents hc c.m.toNat (by omega) e he
  have := textK_size (firstK_fits hc (j : Int))
  rw [h2]
  omega
 have hst := fill_store hs.st hk (by omega) hid
 have hlen : (fillS c k).st.length = k := fill_len (by omega)
 refine ⟨⟨hc, hs.len, hs.fits, hs.tot, hs.es, hst, fun m hm' => ?_, fun e he => ?_⟩, hlen⟩
 ·obtain ⟨e, he, e1, e2⟩ := getS_mem (hs.head m hm')
  have := get_mem hst (fill_mem.2 (.inl he))
  rw [e1, e2] at this
  exact this
 ·rcases fill_mem.1 he with he | ⟨j, hj, rfl⟩
  ·exact hs.held e he
  ·have : countOf (newS c).ms (spare ((newS c).st.length + j)).id = 0 := countOf_none fun m hm' hmid => by
    obtain ⟨e, he, e1, _⟩ := getS_mem (hs.head m hm')
    have := (hid e he).1
    have : (spare ((newS c).st.length + j)).id = ((100 + ((newS c).st.length + j) : Nat) : Int) := rfl
    omega
   show (0 : Int) = (countOf (newS c).ms _ : Int)
   rw [this]; rfl
theorem put_full {st : List Ent} {t : ByteArray} (hno : ∀ e ∈ st, e.tx ≠ t) (hl : st.length = 64) : (putS st t).2.2 ≠ 0 := by
 rcases put_cases st t with ⟨x, hx, hp⟩ | ⟨k, x, hs, hx, hxs, h8, hp⟩ | ⟨hs, _, hnt, hl', hp⟩
 ·rw [hp]; exact hx
 ·exact absurd hxs (hno x (List.mem_of_getElem? hx))
 ·omega
theorem fill_do {c : Cfg} (hc : cfgMay c = true) {p : Nat} (hp : (p : Int) < c.m) : (∃ o, Picks (fillS c 64) p o ∧ (doS (fillS c 64) p).st.length ≤ 9) ∧ ∃ o, Picks (fillS c 63) p o ∧ (doS (fillS c 63) p).st.length = 64 := by
 obtain ⟨hm, _, _, htot, _⟩ := cfgMay_split hc
 obtain ⟨o, ho, hof⟩ := new_at hc hp
 have hot : o.1.t ≠ c.total := by
  rw [hof]
  show (0 : Int) ≠ _
  omega
 have main : ∀ k, k ≤ 64 → 8 ≤ k → Picks (fillS c k) p o ∧ (∀ e ∈ (fillS c k).st, e.tx ≠ textK (chk2 (fillS c k) p)) := fun k hk h8 => by
  obtain ⟨h1, h2⟩ := fill_ok hc hk h8
  refine ⟨⟨h1, ho, hot, by show 0 + 4 ≤ 1024; omega⟩, fun e he ht => ?_⟩
  have hf := chk2_fits h1 (p := p) (o := o) ho hot
  have hct := chk2_t (fillS c k) p
  obtain ⟨_, t2, _⟩ := trained h1 (p := p) (o := o) ho hot
  have ho0 : o.1.t = 0 := by rw [hof]; rfl
  rcases fill_mem.1 he with he | ⟨j, hj, rfl⟩
  ·obtain ⟨_, j, h2⟩ := new_ents hc c.m.toNat (by omega) e he
   have := textK_t (firstK_fits hc (j : Int)) hf (by rw [← h2, ht])
   have hz : (firstK c (j : Int)).t = 0 := rfl
   have hq : (chk2 (fillS c k) p).t = 0 := this.symm.trans hz
   omega
  ·have := textK_size hf
   rw [← ht] at this
   have hsz : (spare ((newS c).st.length + j)).tx.size = 1 := by unfold spare; simp only [strOf_size]; rfl
   omega
 obtain ⟨a1, a2⟩ := main 64 (by omega) (by omega)
 obtain ⟨b1, b2⟩ := main 63 (by omega) (by omega)
 obtain ⟨_, l1⟩ := fill_ok hc (k := 64) (by omega) (by omega)
 obtain ⟨_, l2⟩ := fill_ok hc (k := 63) (by omega) (by omega)
 obtain ⟨_, _, _, _, _, g1⟩ := do_ok a1.ok a1.at_ a1.t a1.room
 obtain ⟨_, _, _, _, g2, _⟩ := do_ok b1.ok b1.at_ b1.t b1.room
 have := g1 (put_full a2 l1)
 have hml := a1.ok.len
 have hmc : (fillS c 64).c.m = c.m := rfl
 have g2' := g2 b2 (by omega)
 exact ⟨⟨o, a1, by show (st2 (fillS c 64) p).length ≤ 9; omega⟩, o, b1, by show (st2 (fillS c 63) p).length = 64; omega⟩
theorem may_not {s : St} (h : stateMay s = false) (pick : Int) : doR s pick = (noSt, 2300) := by
 unfold doR
 rw [if_neg (fun hok => ?_)]
 have := (doOk_split hok).1
 rw [of_stOk this] at h
 cases h
theorem no_room {s : St} (h : 1020 < s.es.length) (pick : Int) : doR s pick = (noSt, 2300) := by
 unfold doR
 rw [if_neg (fun hok => ?_)]
 have := (doOk_split hok).2.1
 omega
theorem thrice {s : St} (h : StOk s) {p : Nat} {o : Chk × Int} (ho : s.ms[p]? = some o) (ht : o.1.t = 0) (htot : s.c.total = 3) (hl : s.es.length ≤ 1000) :
  doR s (p : Int) = (doS s p, 0) ∧ doR (doS s p) (p : Int) = (doS (doS s p) p, 0) ∧ doR (doS (doS s p) p) (p : Int) = (doS (doS (doS s p) p) p, 0) ∧ doR (doS (doS (doS s p) p) p) (p : Int) = (noSt, 2301) ∧ StOk (doS s p) ∧ StOk (doS (doS s p) p) ∧ StOk (doS (doS (doS s p) p) p) := by
 have p1 : Picks s p o := ⟨h, ho, by omega, by omega⟩
 have d1 := do_turned p1
 obtain ⟨x1, a1, b1⟩ := d1.own
 have m1 := d1.more
 have c1 := d1.c
 have p2 : Picks (doS s p) p x1 := ⟨stOk_of d1.may, a1, by rw [c1]; omega, by omega⟩
 have d2 := do_turned p2
 obtain ⟨x2, a2, b2⟩ := d2.own
 have m2 := d2.more
 have c2 := d2.c
 have p3 : Picks (doS (doS s p) p) p x2 := ⟨stOk_of d2.may, a2, by rw [c2, c1]; omega, by omega⟩
 have d3 := do_turned p3
 obtain ⟨x3, a3, b3⟩ := d3.own
 have m3 := d3.more
 have c3 := d3.c
 exact ⟨doR_of p1, doR_of p2, doR_of p3, is_done (stOk_of d3.may) a3 (by rw [c3, c2, c1]; omega) (by omega), stOk_of d1.may, stOk_of d2.may, stOk_of d3.may⟩
theorem text_other : txEq (textK (firstK smallC 0)) (textK (firstK smallC 1)) = false := by decide +kernel
theorem put_new {es : List Ent} (h : Store es) {t : ByteArray} (ht : textOk t = true) (hno : ∀ e ∈ es, txEq e.tx t = false) (hl : es.length < 64) : putS es t = (insE es t 1, (freeN es : Int), 0) := by
 have hN : holdsN es t = es.length := holdsN_none fun j x hx => hno x (List.mem_of_getElem? hx)
 unfold putS
 rw [of_store h, ht, if_neg (by decide), hN, List.getElem?_eq_none (Nat.le_refl _)]
 simp only
 rw [if_neg (by omega)]; rfl
theorem small_new : newS smallC = ⟨smallC, [(firstK smallC 0, 0), (firstK smallC 1, 1)], [], [⟨0, textK (firstK smallC 0), 1⟩, ⟨1, textK (firstK smallC 1), 1⟩]⟩ := by
 have hd := text_other
 have t0 := textK_ok (firstK_fits small_may 0)
 have t1 := textK_ok (firstK_fits small_may 1)
 have hst := (new_ok small_may 1 (by decide)).1.store
 have e1 : newF smallC 1 = ([(firstK smallC 0, 0)], [⟨0, textK (firstK smallC 0), 1⟩]) := by
  have := put_new store_empty t0 (fun e he => by cases he) (by decide)
  show ([] ++ [(firstK smallC ((0 : Nat) : Int), (putS [] (textK (firstK smallC ((0 : Nat) : Int)))).2.1)], (putS [] (textK (firstK smallC ((0 : Nat) : Int)))).1) = _
  rw [show ((0 : Nat) : Int) = 0 from rfl, this]; rfl
 rw [e1] at hst
 have e2 : newF smallC 2 = ([(firstK smallC 0, 0), (firstK smallC 1, 1)], [⟨0, textK (firstK smallC 0), 1⟩, ⟨1, textK (firstK smallC 1), 1⟩]) := by
  have := put_new hst t1 (fun e he => by rw [List.mem_singleton] at he; subst he; exact hd) (by simp)
  show ((newF smallC 1).1 ++ [(firstK smallC ((1 : Nat) : Int), (putS (newF smallC 1).2 (textK (firstK smallC ((1 : Nat) : Int)))).2.1)], (putS (newF smallC 1).2 (textK (firstK smallC ((1 : Nat) : Int)))).1) = _
  rw [e1, show ((1 : Nat) : Int) = 1 from rfl, this]; rfl
 unfold newS
 rw [show smallC.m.toNat = 2 from rfl, e2]
theorem small_ok : StOk (newS smallC) := stOk_of (newS_may small_may)
theorem bad_head : stateMay { newS smallC with ms := [(firstK smallC 0, 9), (firstK smallC 1, 1)] } = false := by
 rw [Bool.eq_false_iff]
 intro h
 obtain ⟨e, he, e1, _⟩ := getS_mem ((stOk_of h).head (firstK smallC 0, 9) (by simp))
 rw [small_new] at he
 simp only [List.mem_cons, List.not_mem_nil, or_false] at he
 rcases he with rfl | rfl <;> simp at e1
theorem bad_cut : stateMay { newS smallC with c := { smallC with cutn := 2 } } = false := by
 rw [Bool.eq_false_iff]
 intro h
 have := (stOk_of h).c
 revert this
 decide
theorem bad_count : stateMay { newS smallC with st := [⟨0, textK (firstK smallC 0), 2⟩, ⟨1, textK (firstK smallC 1), 1⟩] } = false := by
 rw [Bool.eq_false_iff]
 intro h
 have := (stOk_of h).held ⟨0, textK (firstK smallC 0), 2⟩ (by simp)
 rw [small_new] at this
 simp [countOf] at this
theorem copyRowsO_ (H : Heap) (v : V) (rs : List (List Int × Int)) (hv : Rows H v rs) (hl : rs.length < 2 ^ 42) (hx : ∀ r ∈ rs, r.1.length * 8 ≤ 2 ^ 47) :
  ∃ w H', Call Tryz.prog 182 [v] H w H' ∧ ∃ rv, Like rv rs ∧ Mem H H' [.ro (pack (rowsR w rv rs))] := by
 have hv0 := hv
 obtain ⟨n, hn⟩ : ∃ n, rs.length = n := ⟨_, rfl⟩
 have hlen : builtinP T .len [24] [v] = some (.int .i64 (n : Int)) := by
  obtain ⟨qv, hqv, hql, _⟩ := hv
  have := hqv.len T24 rfl
  rw [hql, hn] at this
  exact this
 refine call_mem fit mixed Tryz.func182 rfl rfl rfl (by kernel_rfl) fun hM => ?_
 refine goM ?_
 refine wq_loop (fun c ρ hp => ∃ (k : Nat) (u : V) (rv : List (V × Int)), k ≤ n ∧ c = n - k ∧ Like rv (rs.take k) ∧ Mem H hp (rowsR u rv (rs.take k)) ∧ ρ 0 = v ∧ ρ 3 = u ∧ ρ 4 = .int .i64 (k : Int)) ⟨0, .nils, [], Nat.zero_le _, rfl, ⟨rfl, by simp⟩, hM.nil 2 rowC, rfl, rfl, rfl⟩ ?_
 clear hM
 rintro _ ρ hp ⟨k, u, rv, hk, rfl, hlk, hM, g0, g3, g4⟩
 refine goM ?_
 refine cond_go (fun hb => ?_) (fun hb => ?_)
 ·have hk' : k < n := by simpa using hb
  clear hb
  obtain ⟨⟨xs, y⟩, hrk⟩ : ∃ r, rs[k]? = some r := ⟨rs[k]'(by omega), by simp⟩
  obtain ⟨b3, o3, x, hi3, hlo3, _, _, hxs⟩ := hv0.at hrk
  replace hlo3 := loadV_pre hM.pre hlo3
  have hxl : xs.length * 8 ≤ 2 ^ 47 := hx _ (List.mem_of_getElem? hrk)
  have hw := wrap_succ (n := k) (by omega)
  have hrl : rv.length = k := by rw [hlk.1, List.length_take]; omega
  have s1 := hxs.cells
  have htk : rs.take (k + 1) = rs.take k ++ [(xs, y)] := by rw [List.take_add_one, hrk]; rfl
  replace hM := Mem.packed (M := []) (L := rowsR u rv (rs.take k)) (by simpa using hM)
  clear hrk
  refine goM ?_
  refine l_newM (cs := [.nils, .int .i64 0]) T144 rfl fun b4 H1 hM => ?_
  refine l_putM T144 fun H2 hM => ?_
  refine goM ?_
  refine l_sliceM intC [] [] T27 rfl T3 rfl (cells_ints []) (by decide) fun e1 H3 hM => ?_
  refine goM ?_
  refine l_appM (hxs.mono hM.pre) fun a H4 hM => ?_
  have s3 := (hM.sl .here).cells
  refine goM ?_
  refine l_putM T27 fun H5 hM => ?_
  refine goM ?_
  refine l_sliceM rowC [(a, y)] [a, .int .i64 y] T24 rfl T144 rfl (cells_rows [(a, y)]) (by decide) (fun e2 H6 hM => ?_)
  have hM2 : Mem H H6 (.own 2 rowC e2 [(a, y)] :: .own 2 rowC u rv :: .own 1 intC a ([] ++ xs) :: rowsP rv (rs.take k)) := by
   have h1 := hM.front (r := .ro (pack (rowsR u rv (rs.take k)))) (by (repeat (first | exact Take.here | apply Take.there)))
   have h2 := (h1.sub (L' := [.ro (pack (rowsR u rv (rs.take k))), .own 2 rowC e2 [(a, y)], .own 1 intC a ([] ++ xs)]) (by (repeat (first | exact List.Sublist.slnil | exact List.Sublist.refl _ | refine List.Sublist.cons_cons _ ?_ | refine List.Sublist.cons _ ?_)))).unpacked
   refine h2.perm ?_
   refine (List.perm_append_comm (l₁ := rowsR u rv (rs.take k))).trans ?_
   refine List.Perm.cons _ ?_
   show (Res.own 1 intC a ([] ++ xs) :: Res.own 2 rowC u rv :: rowsP rv (rs.take k)).Perm _
   exact .swap _ _ _
  clear hM
  have hM := hM2
  clear hM2
  refine goM ?_
  refine l_appM (hM.sl .here) (xs := rv) (hh := .there .here) (hb := by simp only [List.length_cons, List.length_nil]; rw [hrl]; omega) fun u' H7 hM => ?_
  refine goM ?_
  refine ⟨n - (k + 1), by omega, k + 1, u', rv ++ [(a, y)], hk', rfl, ?_, ?_, by simp [put_app, put_none, *]⟩
  ·rw [htk]
   have h3 : (rs.take k).length = k := by rw [List.length_take]; omega
   refine ⟨by simp [hrl, h3], fun j p r hp hr => ?_⟩
   by_cases hj : j < k
   ·rw [List.getElem?_append_left (by omega)] at hp hr
    exact hlk.2 j p r hp hr
   ·rw [List.getElem?_append_right (by omega)] at hp hr
    rw [hrl] at hp
    rw [h3] at hr
    match hq : j - k, hp, hr with
    | 0, hp, hr => simp at hp hr; subst hp; subst hr; rfl
    | q + 1, hp, hr => simp at hp
  ·rw [htk]
   have h3 : (rs.take k).length = k := by rw [List.length_take]; omega
   have hz : rowsP (rv ++ [(a, y)]) (rs.take k ++ [(xs, y)]) = rowsP rv (rs.take k) ++ [.own 1 intC a xs] := by
    unfold rowsP
    rw [List.zipWith_append (by omega)]; rfl
   unfold rowsR
   rw [hz]
   refine hM.drop.perm (List.Perm.cons _ ?_)
   exact List.perm_append_comm (l₁ := [Res.own 1 intC a xs]) (l₂ := rowsP rv (rs.take k))
 ·have hk' : k = n := by have : ¬ k < n := by simpa using hb
                         omega
  subst hk'
  clear hb
  rw [List.take_of_length_le (by omega)] at hM hlk
  refine goM ?_
  exact end_1 (by first | exact .inl rfl | exact .inr rfl) ⟨rv, hlk, Mem.packed (M := []) (by simpa using hM)⟩
theorem copyConfigO_ (H : Heap) (c : Cfg) (v : V) (hv : Rows H v c.rows) (hf : c.Fit) : ∃ w H', Call Tryz.prog 99 [.agg (cfgC c v)] H w H' ∧ ∃ u rv, w = .agg (cfgC c u) ∧ Like rv c.rows ∧ Mem H H' [.ro (pack (rowsR u rv c.rows))] := by
 have l1 := hf.rows
 have l2 := hf.row
 have s0 : v.cells = [v] ∧ v.isTup = false := by obtain ⟨_, h, _⟩ := hv; exact h.cells
 refine call_mem fit mixed Tryz.func99 rfl rfl rfl (by kernel_rfl) fun hM => ?_
 refine wq_seq (wq_line ?_)
 refine l_boxM T26 fun b1 H1 hM => ?_
 refine l_newM (cs := zeroCfg) T26 rfl fun b2 H2 hM => ?_
 refine goM ?_
 obtain ⟨u, H3, c1, rv, hlk, m1⟩ := copyRowsO_ H2 v c.rows (hv.mono hM.pre) (by omega) (fun r hr => by have := l2 r hr; omega)
 have s1 : u.cells = [u] ∧ u.isTup = false := by obtain ⟨_, h, _⟩ := rows_pack (m1.fact .here) hlk; exact h.cells
 refine l_callG c1 ?_
 replace hM := hM.call1 m1
 refine goM ?_
 refine l_putM T24 fun H4 hM => ?_
 refine goM ?_
 refine l_putM T26 fun H5 hM => ?_
 refine goM ?_
 exact end_1 (by first | exact .inl rfl | exact .inr rfl) ⟨u, rv, rfl, hlk, hM.subG⟩
theorem doOk_doc (s : St) (pick : Int) : doOk s pick = (stateMay s && (!decide (pick < 0) && (!decide (pick ≥ (s.ms.length : Int)) && !decide ((s.es.length : Int) + 4 > 1024)))) := by
 unfold doOk
 cases hm : stateMay s with
 | false => rfl
 | true =>
  have h := stOk_of hm
  obtain ⟨h2, _⟩ := cfgMay_split h.c
  have hl := h.len
  rw [wrap_m1 h2, Bool.true_and, Bool.true_and]
  apply Bool.eq_iff_iff.2
  simp only [Bool.and_eq_true, within_iff, decide_eq_true_eq, Bool.not_eq_true', decide_eq_false_iff_not]
  omega
theorem doR_fit {s : St} (hf : s.Fit) (pick : Int) : (doR s pick).1.Fit := by
 rcases doR_cases s pick with ⟨p, o, rfl, pk, e⟩ | ⟨e', _, e⟩
 ·rw [e]; exact do_fit pk hf
 ·rw [e]; exact no_fit
theorem factor_ (H : Heap) (dn : Bool) : Call Tryz.prog 219 [.bool dn] H (.int .i64 (if dn = true then 52429 else 81920)) H := by
 refine call_pure fit mixed Tryz.func219 rfl rfl rfl (by kernel_rfl) rfl fun hM => ?_
 cases dn
 ·refine goM ?_
  exact end_1 (by first | exact .inl rfl | exact .inr rfl) ⟨rfl, hM.pre⟩
 ·refine goM ?_
  exact end_1 (by first | exact .inl rfl | exact .inr rfl) ⟨rfl, hM.pre⟩
theorem refScores1_ (H : Heap) (s : St) (rv mv ev sv : V) (xs : List MR) (ha : StAt H rv mv ev sv xs s) (hf : s.Fit) :
  ∃ w H', Call Tryz.prog 103 [.agg (stC s.c rv mv ev sv)] H w H' ∧ Mem H H' [.own 1 intC w (scoreL s)] := by
 have z1 : rv.cells = [rv] ∧ rv.isTup = false := by obtain ⟨_, h, _⟩ := ha.rows; exact h.cells
 have z2 := ha.ms.cells
 have z3 := ha.es.cells
 have z4 := ha.st.cells
 refine call_mem fit mixed Tryz.func103 rfl rfl rfl (by kernel_rfl) fun hM => ?_
 refine wq_seq (wq_line ?_)
 refine l_boxM T33 fun b1 H1 hM => ?_
 obtain ⟨n, hn⟩ : ∃ n, xs.length = n := ⟨_, rfl⟩
 have hlen := ha.ms.len T29 rfl
 rw [hn] at hlen
 have hkx := hf.kx ha
 have hnb : n * 80 ≤ 140737488351232 := by have := hf.ms; rw [← hn, ha.len]; exact this
 have hsc : scoreL s = xs.map fun x => (scoreR s.c x.k).1 := by unfold scoreL; rw [← ha.val, List.map_map]; rfl
 rw [hsc]
 clear hsc
 refine goM ?_
 refine wq_loop (fun cc ρ h => ∃ (k : Nat) (u : V), k ≤ n ∧ cc = n - k ∧ Mem H h [.own 1 intC u ((xs.take k).map fun x => (scoreR s.c x.k).1), .box b1 (stC s.c rv mv ev sv)] ∧ ρ 1 = .ptr b1 0 ∧ ρ 3 = u ∧ ρ 4 = .int .i64 (k : Int)) ⟨0, .nils, Nat.zero_le _, rfl, hM.nil 1 intC, by simp [put_app, put_none, rho0_app, *]⟩ ?_
 repeat clear hM
 rintro _ ρ h ⟨k, u, hk, rfl, hM, g1, g3, g4⟩
 have t1 := (hM.sl .here).cells
 refine goM ?_
 refine cond_go (fun hb => ?_) (fun hb => ?_)
 ·have hk' : k < n := by simpa using hb
  clear hb
  obtain ⟨x, hx⟩ : ∃ x, xs[k]? = some x := ⟨xs[k]'(by omega), by simp⟩
  have hxm := List.mem_of_getElem? hx
  have hka := ha.ks x hxm
  obtain ⟨bo, o, hi, lo, _, _⟩ := mr_at (ha.ms.mono hM.pre) hx
  have hw := wrap_succ (n := k) (by omega)
  have htk : (xs.take (k + 1)).map (fun x => (scoreR s.c x.k).1) = (xs.take k).map (fun x => (scoreR s.c x.k).1) ++ [(scoreR s.c x.k).1] := by rw [List.take_add_one, hx]; simp
  have hkf := hkx x hxm
  clear hx hxm
  have c1 := refScoreOf_ h s.c rv x.w x.v x.k x.h (ha.rows.mono hM.pre) (hka.mono hM.pre) hf.c hkf
  refine goM ?_
  refine d_call0G c1 ?_
  refine goM ?_
  refine l_sliceM intC [(scoreR s.c x.k).1] [.int .i64 (scoreR s.c x.k).1] T27 rfl T3 rfl (cells_ints [(scoreR s.c x.k).1]) (by decide) fun e1 H6 hM => ?_
  refine goM ?_
  refine l_appM (hM.sl .here) (xs := (xs.take k).map fun x => (scoreR s.c x.k).1) (hh := .there .here) (hb := by simp only [List.length_map, List.length_take, List.length_cons, List.length_nil]; rw [Nat.min_eq_left (by omega)]; show (k + 1) * 8 ≤ _ ∧ k + 1 ≤ _; omega) fun u' H7 hM => ?_
  have t2 := (hM.sl (v := u') (xs := (xs.take k).map (fun x => (scoreR s.c x.k).1) ++ [(scoreR s.c x.k).1]) (by (repeat (first | exact Has.here | apply Has.there)))).cells
  refine goM ?_
  refine ⟨n - (k + 1), by omega, k + 1, u', hk', rfl, ?_, by simp [put_app, put_none, *]⟩
  rw [htk]
  exact hM.subG
 ·have hk' : k = n := by have : ¬ k < n := by simpa using hb
                         omega
  subst hk'
  clear hb
  rw [List.take_of_length_le (by omega)] at hM
  refine goM ?_
  exact end_1 (by first | exact .inl rfl | exact .inr rfl) (hM.subG)
theorem copyState_ (H : Heap) (s : St) (rv mv ev sv : V) (xs : List MR) (ha : StAt H rv mv ev sv xs s) (hf : s.Fit) :
  ∃ w H', Call Tryz.prog 34 [.agg (stC s.c rv mv ev sv)] H w H' ∧ ∃ u mv' ev' sv' rvs xs', w = .agg (stC s.c u mv' ev' sv') ∧ Like rvs s.c.rows ∧ xs'.map MR.val = s.ms ∧ Mem H H' (stOwn u mv' ev' sv' rvs xs' s) := by
 have z1 : rv.cells = [rv] ∧ rv.isTup = false := by obtain ⟨_, h, _⟩ := ha.rows; exact h.cells
 have z2 := ha.ms.cells
 have z3 := ha.es.cells
 have z4 := ha.st.cells
 have l4 := hf.es
 have l5 := hf.st
 refine call_mem fit mixed Tryz.func34 rfl rfl rfl (by kernel_rfl) fun hM => ?_
 refine wq_seq (wq_line ?_)
 refine l_boxM T33 fun b1 H1 hM => ?_
 refine l_newM (cs := zeroSt) T33 rfl fun b2 H2 hM => ?_
 obtain ⟨n, hn⟩ : ∃ n, xs.length = n := ⟨_, rfl⟩
 have hlen := ha.ms.len T29 rfl
 rw [hn] at hlen
 have hkx := hf.kx ha
 have hnb : n * 80 ≤ 140737488351232 := by have := hf.ms; rw [← hn, ha.len]; exact this
 refine goM ?_
 have hM0 : Mem H H2 [.ro (pack (mems [])), .own 6 mrC .nils [], .box b2 zeroSt, .box b1 (stC s.c rv mv ev sv)] := Mem.packed (L := []) (hM.nil 6 mrC)
 refine wq_loop (fun cc ρ h => ∃ (k : Nat) (v : V) (ys : List MR), k ≤ n ∧ cc = n - k ∧ ys.map MR.val = (xs.take k).map MR.val ∧ Mem H h [.ro (pack (mems ys)), .own 6 mrC v ys, .box b2 zeroSt, .box b1 (stC s.c rv mv ev sv)] ∧ ρ 1 = .ptr b1 0 ∧ ρ 2 = .ptr b2 0 ∧ ρ 3 = v ∧ ρ 4 = .int .i64 (k : Int)) ⟨0, .nils, [], Nat.zero_le _, rfl, rfl, hM0, by simp [put_app, put_none, rho0_app, *]⟩ ?_
 repeat clear hM
 clear hM0
 rintro _ ρ h ⟨k, v, ys, hk, rfl, hys, hM, g1, g2, g3, g4⟩
 have t1 := (hM.sl (v := v) (xs := ys) (by (repeat (first | exact Has.here | apply Has.there)))).cells
 have hyl : ys.length = k := by have := congrArg List.length hys; simp only [List.length_map, List.length_take] at this; omega
 refine goM ?_
 refine cond_go (fun hb => ?_) (fun hb => ?_)
 ·have hk' : k < n := by simpa using hb
  clear hb
  obtain ⟨x, hx⟩ : ∃ x, xs[k]? = some x := ⟨xs[k]'(by omega), by simp⟩
  have hxm := List.mem_of_getElem? hx
  have hka := ha.ks x hxm
  have hkf := hkx x hxm
  obtain ⟨bo, o, hi, lo, _, _⟩ := mr_at (ha.ms.mono hM.pre) hx
  have hw := wrap_succ (n := k) (by omega)
  have s1 := hka.ws.cells
  have s2 := hka.vs.cells
  have htk : (xs.take (k + 1)).map MR.val = (xs.take k).map MR.val ++ [x.val] := by rw [List.take_add_one, hx]; simp
  obtain ⟨xw, xv, xk, xh⟩ := x
  simp only at lo s1 s2 hka hkf
  clear hx hxm
  refine goM ?_
  refine l_newM (cs := zeroMem) T51 rfl fun b5 H4 hM => ?_
  refine l_putM T51 fun H5 hM => ?_
  refine goM ?_
  obtain ⟨_, H6, c1, a, b', rfl, m1⟩ := copyCheckM_ H5 xw xv xk (hka.mono hM.pre) hkf
  refine l_callG c1 ?_
  have s3 := (m1.sl .here).cells
  have s4 := (m1.sl (.there .here)).cells
  replace hM := hM.call2 m1
  clear c1 m1
  refine goM ?_
  refine l_putM T45 fun H7 hM => ?_
  refine goM ?_
  refine l_sliceM mrC [⟨a, b', xk, xh⟩] (mC a b' xk xh) T29 rfl T51 rfl (cells_mrs [⟨a, b', xk, xh⟩]) (by decide) fun e1 H8 hM => ?_
  refine goM ?_
  refine l_appM (hM.sl .here) (xs := ys) (hh := by (repeat (first | exact Has.here | apply Has.there))) (hb := by rw [hyl]; show (k + 1) * 80 ≤ _ ∧ k + 1 ≤ _; omega) fun v' H9 hM => ?_
  have s6 := (hM.sl (v := v') (xs := ys ++ [⟨a, b', xk, xh⟩]) (by (repeat (first | exact Has.here | apply Has.there)))).cells
  refine goM ?_
  have h1 := ((hM.front (r := .ro (pack (mems ys))) (by (repeat (first | exact Take.here | apply Take.there)))).front (r := .own 1 intC b' xk.vs) (by (repeat (first | exact Take.here | apply Take.there)))).front (r := .own 1 intC a xk.ws) (by (repeat (first | exact Take.here | apply Take.there)))
  have h2 := Mem.memsMore (x := ⟨a, b', xk, xh⟩) h1
  have h3 := (h2.front (r := .own 6 mrC v' (ys ++ [⟨a, b', xk, xh⟩])) (by (repeat (first | exact Take.here | apply Take.there)))).swap
  have h4 := h3.front (r := .ro (pack (mems (ys ++ [⟨a, b', xk, xh⟩])))) (by (repeat (first | exact Take.here | apply Take.there)))
  refine ⟨n - (k + 1), by omega, k + 1, v', ys ++ [⟨a, b', xk, xh⟩], hk', rfl, ?_, h4.sub (by (repeat (first | exact List.Sublist.slnil | exact List.Sublist.refl _ | refine List.Sublist.cons_cons _ ?_ | refine List.Sublist.cons _ ?_))), by simp [put_app, put_none, *]⟩
  rw [htk, List.map_append, hys]; rfl
 ·have hk' : k = n := by have : ¬ k < n := by simpa using hb
                         omega
  subst hk'
  clear hb
  rw [List.take_of_length_le (by omega), ha.val] at hys
  refine goM ?_
  refine l_sliceM (sz := 6) evC [] [] T30 rfl T61 rfl Cells.nil (by decide) fun e1 H3 hM => ?_
  refine goM ?_
  refine l_appM (ha.es.mono hM.pre) (xs := []) (hb := by simp only [List.length_nil]; show (0 + s.es.length) * 48 ≤ _ ∧ _; omega) fun ev' H4 hM => ?_
  have s5 := (hM.sl .here).cells
  refine goM ?_
  refine l_sliceM (sz := 3) entC [] [] T31 rfl T73 rfl Cells.nil (by decide) fun e2 H5 hM => ?_
  refine goM ?_
  refine l_appM (ha.st.mono hM.pre) (xs := []) (hb := by simp only [List.length_nil]; show (0 + s.st.length) * 32 ≤ _ ∧ _; omega) fun sv' H6 hM => ?_
  have s6 := (hM.sl .here).cells
  refine goM ?_
  obtain ⟨_, H7, c1, u, rvs, rfl, hlk, m1⟩ := copyConfigO_ H6 s.c rv (ha.rows.mono hM.pre) hf.c
  refine l_callG c1 ?_
  have s7 : u.cells = [u] ∧ u.isTup = false := by obtain ⟨_, h, _⟩ := rows_pack (m1.fact .here) hlk; exact h.cells
  replace hM := hM.call1 m1
  clear c1 m1
  refine goM ?_
  refine l_putM T33 fun H8 hM => ?_
  refine goM ?_
  refine end_1 (by first | exact .inl rfl | exact .inr rfl) ⟨u, v, ev', sv', rvs, ys, rfl, hlk, hys, ?_⟩
  have h1 := (((hM.front (r := .own 3 entC sv' ([] ++ s.st)) (by (repeat (first | exact Take.here | apply Take.there)))).front (r := .own 6 evC ev' ([] ++ s.es)) (by (repeat (first | exact Take.here | apply Take.there)))).front (r := .own 6 mrC v ys) (by (repeat (first | exact Take.here | apply Take.there)))).front (r := .ro (pack (mems ys))) (by (repeat (first | exact Take.here | apply Take.there)))
  exact (h1.front (r := .ro (pack (rowsR u rvs s.c.rows))) (by (repeat (first | exact Take.here | apply Take.there)))).sub (by unfold stOwn; (repeat (first | exact List.Sublist.slnil | exact List.Sublist.refl _ | refine List.Sublist.cons_cons _ ?_ | refine List.Sublist.cons _ ?_)))
theorem copyCheck22_ (H : Heap) (w v : V) (k : Chk) (hk : KAt H w v k) (hf : k.Fit) : ∃ u H', Call Tryz.prog 104 [.agg (kC w v k)] H u H' ∧ ∃ a b, u = .agg (kC a b k) ∧ Mem H H' [.own 1 intC b k.vs, .own 1 intC a k.ws] := by
 have l1 := hf.ws
 have l2 := hf.vs
 have s1 := hk.ws.cells
 have s2 := hk.vs.cells
 refine call_mem fit mixed Tryz.func104 rfl rfl rfl (by kernel_rfl) fun hM => ?_
 refine wq_seq (wq_line ?_)
 refine l_boxM T45 fun b1 H1 hM => ?_
 refine l_newM (cs := zeroChk) T45 rfl fun b2 H2 hM => ?_
 refine goM ?_
 refine l_sliceM intC [] [] T27 rfl T3 rfl (cells_ints []) (by decide) fun e1 H3 hM => ?_
 refine goM ?_
 refine l_appM (hk.ws.mono hM.pre) fun a H4 hM => ?_
 have s3 := (hM.sl .here).cells
 refine goM ?_
 refine l_putM T27 fun H5 hM => ?_
 refine goM ?_
 refine l_sliceM intC [] [] T27 rfl T3 rfl (cells_ints []) (by decide) fun e2 H6 hM => ?_
 refine goM ?_
 refine l_appM (hk.vs.mono hM.pre) fun b H7 hM => ?_
 have s4 := (hM.sl .here).cells
 refine goM ?_
 refine l_putM T27 fun H8 hM => ?_
 refine goM ?_
 refine l_putM T45 fun H9 hM => ?_
 refine goM ?_
 exact end_1 (by first | exact .inl rfl | exact .inr rfl) ⟨a, b, rfl, hM.subG⟩
theorem Mem.pull {B H : Heap} {L M : List Res} {i : Nat} {r : Res} (h : Mem B H (.ro (pack L) :: M)) (hr : L[i]? = some r) : Mem B H (r :: .ro (pack (L.set i (.own 1 intC .nils []))) :: M) := by
 obtain ⟨hi, rfl⟩ := List.getElem?_eq_some_iff.1 hr
 have h1 := h.unpacked.nil 1 intC
 have e : L = L.take i ++ L[i] :: L.drop (i + 1) := by rw [← List.drop_eq_getElem_cons hi, List.take_append_drop]
 have e2 : L.set i (.own 1 intC .nils ([] : List Int)) = L.take i ++ .own 1 intC .nils [] :: L.drop (i + 1) := by rw [List.set_eq_take_append_cons_drop, if_pos hi]
 have h2 : Mem B H ((L.take i ++ .own 1 intC .nils ([] : List Int) :: L.drop (i + 1)) ++ (L[i] :: M)) := by
  have p : ∀ (A D M : List Res) (x z : Res), (z :: ((A ++ x :: D) ++ M)).Perm ((A ++ z :: D) ++ x :: M) := fun A D M x z => by
   simp only [List.append_assoc, List.cons_append]
   exact (List.perm_middle.symm).trans (List.Perm.append_left A (List.Perm.cons z List.perm_middle.symm))
  refine h1.perm (List.Perm.trans ?_ (p _ _ _ _ _))
  rw [← e]
 rw [← e2] at h2
 exact h2.packed.swap
theorem spoilEvents_ (B H : Heap) (L : List Res) (f : Res → List Res) (v : V) (xs : List Ev) (hM : Mem B H L) (hh : Has L (.own 6 evC v xs) f) (lx : xs.length ≤ 2 ^ 42) : ∃ w H', Call Tryz.prog 111 [v] H w H' ∧ w = .tup [] ∧ ∃ ys : List Ev, ys.length = xs.length ∧ Mem B H' (f (.own 6 evC v ys)) := by
 refine call_turn fit mixed hM Tryz.func111 rfl rfl rfl (by kernel_rfl) fun _ => ?_
 obtain ⟨n, hn⟩ : ∃ n, xs.length = n := ⟨_, rfl⟩
 refine goM ?_
 refine wq_loop (fun c ρ hp => ∃ (k : Nat) (ys : List Ev) (L' : List Res), k ≤ n ∧ c = n - k ∧ ys.length = n ∧ Mem B hp L' ∧ Has L' (.own 6 evC v ys) f ∧ ρ 0 = v ∧ ρ 2 = .int .i64 (k : Int)) ⟨0, xs, L, Nat.zero_le _, rfl, hn, hM, hh, rfl, rfl⟩ ?_
 clear hM hh
 rintro _ ρ hp ⟨k, ys, L', hk, rfl, hys, hM, hh, h0, h2⟩
 have hlen := (hM.sl hh).len T30 rfl
 rw [hys] at hlen
 refine goM ?_
 refine cond_go (fun hb => ?_) (fun hb => ?_)
 ·have hk' : k < n := by simpa using hb
  clear hb
  obtain ⟨e, he⟩ : ∃ e, ys[k]? = some e := ⟨ys[k]'(by omega), by simp⟩
  obtain ⟨b, o, cs, hi, hc, _, hlo, hlc⟩ := (hM.sl hh).get T30 rfl T61 rfl he
  have lo3 : loadV T 3 hp b (o + 3) = some (.int .i64 e.at_) := loadV_one T3 rfl (hlc 3 _ (by rw [hc]; rfl))
  obtain ⟨b', hix, hput⟩ := hM.elemAt hh T30 rfl T61 rfl he 3 T3 (by decide)
  rw [hi] at hix
  cases hix
  obtain ⟨z, hz⟩ : ∃ z, IntKind.i64.wrap ((BitVec.ofInt IntKind.i64.bits e.at_ ^^^ BitVec.ofInt IntKind.i64.bits 90).toNat : Int) = z := ⟨_, rfl⟩
  obtain ⟨H', hst, hM'⟩ := hput (.int .i64 z) ⟨e.kind, e.member, e.donor, z, e.rate, e.mom⟩ rfl rfl (fun cs hl hR => by rw [hR]; rfl)
  have hw := wrap_succ (n := k) (by omega)
  clear he hput hlo hlc hc
  refine goM ?_
  refine l_stM hst ?_
  refine goM ?_
  exact ⟨n - (k + 1), by omega, k + 1, _, _, hk', rfl, by simpa using hys, hM', hh.again _, by simp [put_app, put_none, *]⟩
 ·clear hb
  refine goM ?_
  refine end_normal (by simp only [resRf, resRs, resR]; first | done | rfl) ⟨rfl, ys, by omega, ?_⟩
  rw [hh.same]; exact hM
structure RowsQ (rv : List (V × Int)) (P : List Res) : Prop where
 len : P.length = rv.length
 at_ : ∀ (j : Nat) p, rv[j]? = some p → ∃ xs : List Int, P[j]? = some (.own 1 intC p.1 xs) ∧ xs.length ≤ 140737488351232
theorem rowsQ_of {rv : List (V × Int)} {rs : List (List Int × Int)} (h : Like rv rs) (hl : ∀ r ∈ rs, r.1.length * 8 ≤ 140737488351232) : RowsQ rv (rowsP rv rs) := by
 refine ⟨by unfold rowsP; rw [List.length_zipWith, h.1, Nat.min_self], fun j p hp => ?_⟩
 have hj := (List.getElem?_eq_some_iff.1 hp).1
 have hr : rs[j]? = some (rs[j]'(by rw [← h.1]; exact hj)) := by simp
 exact ⟨_, rowsP_get hp hr, by have := hl _ (List.mem_of_getElem? hr); omega⟩
theorem spoilRows_ (B H : Heap) (L P : List Res) (u : V) (rv : List (V × Int)) (hM : Mem B H (.own 2 rowC u rv :: (P ++ L))) (hq : RowsQ rv P) (lx : rv.length ≤ 2 ^ 42) : ∃ w H', Call Tryz.prog 109 [u] H w H' ∧ w = .tup [] ∧ Mem B H' L := by
 refine call_turn fit mixed hM Tryz.func109 rfl rfl rfl (by kernel_rfl) fun _ => ?_
 obtain ⟨n, hn⟩ : ∃ n, rv.length = n := ⟨_, rfl⟩
 refine goM ?_
 refine wq_loop (fun c ρ hp => ∃ (k : Nat) (rv : List (V × Int)) (P : List Res), k ≤ n ∧ c = n - k ∧ rv.length = n ∧ RowsQ rv P ∧ Mem B hp (.own 2 rowC u rv :: (P ++ L)) ∧ ρ 0 = u ∧ ρ 2 = .int .i64 (k : Int)) ⟨0, rv, P, Nat.zero_le _, rfl, hn, hq, hM, rfl, rfl⟩ ?_
 have lxn : n ≤ 2 ^ 42 := by omega
 clear hM hq hn lx
 rintro _ ρ hp ⟨k, rv, P, hk, rfl, hrl, hq, hM, h0, h2⟩
 have hlen := (hM.sl .here).len T24 rfl
 rw [hrl] at hlen
 refine goM ?_
 refine cond_go (fun hb => ?_) (fun hb => ?_)
 ·have hk' : k < n := by simpa using hb
  clear hb
  obtain ⟨⟨p, y⟩, he⟩ : ∃ e, rv[k]? = some e := ⟨rv[k]'(by omega), by simp⟩
  obtain ⟨xs, hP, hxs⟩ := hq.at_ k _ he
  obtain ⟨b, o, cs, hi, hc, _, hlo, hlc⟩ := (hM.sl .here).get T24 rfl T144 rfl he
  have lo0 : loadV T 27 hp b o = some p := loadV_one T27 rfl (hlc 0 _ (by rw [hc]; rfl))
  obtain ⟨_, H2, c1, rfl, ys, hys, hM2⟩ := spoilIntsM_ B hp _ _ p xs hM (.there (Has.app (Has.nth hP))) (by omega)
  obtain ⟨b', o', cs', hi', hc', _, hlo', hlc'⟩ := (hM2.sl .here).get T24 rfl T144 rfl he
  rw [hi] at hi'
  cases hi'
  have lo1 : loadV T 3 H2 b (o + 1) = some (.int .i64 y) := loadV_one T3 rfl (hlc' 1 _ (by rw [hc']; rfl))
  obtain ⟨b', hix, hput⟩ := hM2.elemAt .here T24 rfl T144 rfl he 1 T3 (by decide)
  rw [hi] at hix
  cases hix
  obtain ⟨z, hz⟩ : ∃ z, IntKind.i64.wrap ((BitVec.ofInt IntKind.i64.bits y ^^^ BitVec.ofInt IntKind.i64.bits 90).toNat : Int) = z := ⟨_, rfl⟩
  obtain ⟨H', hst, hM'⟩ := hput (.int .i64 z) (p, z) rfl rfl (fun cs hl hR => by rw [hR]; rfl)
  have hw := wrap_succ (n := k) (by omega)
  have hkP := (List.getElem?_eq_some_iff.1 hP).1
  have hq2 : RowsQ (rv.set k (p, z)) (P.set k (.own 1 intC p ys)) := ⟨by rw [List.length_set, List.length_set]; exact hq.len, fun j q hj => by
   by_cases hjk : k = j
   ·subst hjk
    rw [List.getElem?_set_self (by omega)] at hj
    cases hj
    exact ⟨ys, List.getElem?_set_self hkP, by omega⟩
   ·rw [List.getElem?_set_ne hjk] at hj ⊢
    exact hq.at_ j q hj⟩
  clear he hput hlo hlc hc hlo' hlc' hc' hP hM2
  refine goM ?_
  refine l_callG c1 ?_
  refine goM ?_
  refine l_stM hst ?_
  refine goM ?_
  exact ⟨n - (k + 1), by omega, k + 1, _, _, hk', rfl, by simpa using hrl, hq2, hM', by simp [put_app, put_none, *]⟩
 ·clear hb
  refine goM ?_
  exact end_normal (by simp only [resRf, resRs, resR]; first | done | rfl) ⟨rfl, (hM.drop).sub (List.sublist_append_right _ _)⟩
theorem spoilState_ (B H : Heap) (L : List Res) (s : St) (u mv ev sv : V) (rvs : List (V × Int)) (xs : List MR) (hM : Mem B H (stOwn u mv ev sv rvs xs s ++ L)) (hl : Like rvs s.c.rows) (hv : xs.map MR.val = s.ms) (hf : s.Fit) :
  ∃ w H', Call Tryz.prog 37 [.agg (stC s.c u mv ev sv)] H w H' ∧ w = .tup [] ∧ Mem B H' L := by
 have hat := st_at hM hl hv
 have z1 : u.cells = [u] ∧ u.isTup = false := by obtain ⟨_, h, _⟩ := hat.rows; exact h.cells
 have z2 := hat.ms.cells
 have z3 := hat.es.cells
 have z4 := hat.st.cells
 have l1 := hf.c.rows
 have l4 := hf.es
 have l5 := hf.st
 have hkx := hf.kx hat
 have hlx := hat.len
 have hlm := hf.ms
 obtain ⟨n, hn⟩ : ∃ n, xs.length = n := ⟨_, rfl⟩
 have hlen := hat.ms.len T29 rfl
 rw [hn] at hlen
 clear hat
 refine call_turn fit mixed hM Tryz.func37 rfl rfl rfl (by kernel_rfl) fun _ => ?_
 refine wq_seq (wq_line ?_)
 refine l_boxM T33 fun b1 H1 hM => ?_
 have hr := (hM.front (r := .ro (pack (rowsR u rvs s.c.rows))) (.there .here)).unpacked
 obtain ⟨_, H2, c1, rfl, hM2⟩ := spoilRows_ B H1 (.box b1 (stC s.c u mv ev sv) :: .ro (pack (mems xs)) :: .own 6 mrC mv xs :: .own 6 evC ev s.es :: .own 3 entC sv s.st :: L) (rowsP rvs s.c.rows) u rvs hr (rowsQ_of hl hf.c.row) (by have := hl.1; omega)
 clear hr
 refine goM ?_
 refine l_callG c1 ?_
 clear c1
 repeat clear hM
 have hM := hM2
 clear hM2
 refine goM ?_
 refine wq_loop (fun c ρ hp => ∃ (k : Nat) (ys : List MR) (P : List Res), k ≤ n ∧ c = n - k ∧ ys.length = n ∧ P.length = n ∧ (∀ (j : Nat) y, k ≤ j → ys[j]? = some y → P[j]? = some (kPart y.w y.v y.k.ws y.k.vs) ∧ y.k.Fit) ∧ Mem B hp (.box b1 (stC s.c u mv ev sv) :: .ro (pack P) :: .own 6 mrC mv ys :: .own 6 evC ev s.es :: .own 3 entC sv s.st :: L) ∧ ρ 1 = .ptr b1 0 ∧ ρ 2 = .int .i64 (k : Int)) ⟨0, xs, mems xs, Nat.zero_le _, rfl, hn, by unfold mems; rw [List.length_map, hn], fun j y _ hy => ⟨by unfold mems; rw [List.getElem?_map, hy]; rfl, hkx y (List.mem_of_getElem? hy)⟩, hM, by simp [put_app, put_none, rho0_app, *]⟩ ?_
 repeat clear hM
 have hnb : n * 80 ≤ 140737488351232 := by omega
 clear hkx hn hv hlx
 rintro _ ρ hp ⟨k, ys, P, hk, rfl, hyl, hPl, hP, hM, g1, g2⟩
 refine goM ?_
 refine cond_go (fun hb => ?_) (fun hb => ?_)
 ·have hk' : k < n := by simpa using hb
  clear hb
  obtain ⟨y, hy⟩ : ∃ e, ys[k]? = some e := ⟨ys[k]'(by omega), by simp⟩
  obtain ⟨hPk, kf⟩ := hP k y (Nat.le_refl _) hy
  obtain ⟨bo, o, hi, _, loK, _⟩ := mr_at (hM.sl (v := mv) (xs := ys) (by (repeat (first | exact Has.here | apply Has.there)))) hy
  have hka := kPart_at ((hM.front (r := .ro (pack P)) (by (repeat (first | exact Take.here | apply Take.there)))).pull hPk |>.get .here)
  have t1 := hka.ws.cells
  have t2 := hka.vs.cells
  have h1 := ((hM.front (r := .ro (pack P)) (by (repeat (first | exact Take.here | apply Take.there)))).pull hPk).unpack2
  obtain ⟨_, H3, c1, rfl, hM3⟩ := spoilCheckM_ B hp _ y.w y.v y.k h1 kf
  obtain ⟨bo2, o2, hi2, _, _, loH⟩ := mr_at (hM3.sl (v := mv) (xs := ys) (by (repeat (first | exact Has.here | apply Has.there)))) hy
  rw [hi] at hi2
  cases hi2
  obtain ⟨b', hix, hput⟩ := hM3.elemAt (sz := 6) (R := mrC) (v := mv) (xs := ys) (by (repeat (first | exact Has.here | apply Has.there))) T29 rfl T51 rfl hy 5 T3 (by decide)
  rw [hi] at hix
  cases hix
  obtain ⟨z, hz⟩ : ∃ z, IntKind.i64.wrap ((BitVec.ofInt IntKind.i64.bits y.h ^^^ BitVec.ofInt IntKind.i64.bits 90).toNat : Int) = z := ⟨_, rfl⟩
  obtain ⟨H', hst, hM4⟩ := hput (.int .i64 z) ⟨y.w, y.v, y.k, z⟩ rfl rfl (fun cs hl hR => by rw [hR]; rfl)
  have hw := wrap_succ (n := k) (by omega)
  have hP2 : ∀ (j : Nat) x, k + 1 ≤ j → (ys.set k ⟨y.w, y.v, y.k, z⟩)[j]? = some x → (P.set k (.own 1 intC .nils []))[j]? = some (kPart x.w x.v x.k.ws x.k.vs) ∧ x.k.Fit := fun j x hj hx => by
   rw [List.getElem?_set_ne (by omega)] at hx ⊢
   exact hP j x (by omega) hx
  clear hput h1 hy hPk hP hka
  refine goM ?_
  refine l_callG c1 ?_
  clear c1 loK
  repeat clear hM
  have hM := hM3
  clear hM3
  refine goM ?_
  refine d_stM hst ?_
  repeat clear hM
  have hM5 := hM4.front (r := .box b1 (stC s.c u mv ev sv)) (by (repeat (first | exact Take.here | apply Take.there)))
  clear hM4
  refine goM ?_
  exact ⟨n - (k + 1), by omega, k + 1, _, _, hk', rfl, by simpa using hyl, by simpa using hPl, hP2, hM5, by simp [put_app, put_none, *]⟩
 ·clear hb
  obtain ⟨_, H3, c1, rfl, es', _, hM3⟩ := spoilEvents_ B hp _ _ ev s.es hM (by (repeat (first | exact Has.here | apply Has.there))) (by omega)
  refine goM ?_
  refine l_callG c1 ?_
  clear c1
  repeat clear hM
  have hM := hM3
  clear hM3
  refine goM ?_
  obtain ⟨_, H4, c1, rfl, st', _, hM4⟩ := spoilEnts_ B H3 _ _ sv s.st hM (by (repeat (first | exact Has.here | apply Has.there))) (by omega)
  refine l_callG c1 ?_
  clear c1
  refine goM ?_
  exact end_normal (by simp only [resRf, resRs, resR]; first | done | rfl) ⟨rfl, hM4.sub (by (repeat (first | exact List.Sublist.slnil | exact List.Sublist.refl _ | refine List.Sublist.cons_cons _ ?_ | refine List.Sublist.cons _ ?_)))⟩
theorem copyP_ (H : Heap) (s : St) (rv mv ev sv : V) (xs : List MR) (ha : StAt H rv mv ev sv xs s) (hf : s.Fit) :
  ∃ w H', Call Tryz.prog 34 [.agg (stC s.c rv mv ev sv)] H w H' ∧ ∃ q : SV, w = .agg (q.c s) ∧ q.Ok s ∧ Mem H H' [q.own s] := by
 obtain ⟨w, H', h, u, mv', ev', sv', rvs, xs', rfl, h1, h2, h3⟩ := copyState_ H s rv mv ev sv xs ha hf
 exact ⟨_, H', h, ⟨u, mv', ev', sv', rvs, xs'⟩, rfl, ⟨h1, h2⟩, h3.svN⟩
theorem spoilP_ {B H : Heap} {L L' : List Res} {q : SV} {s : St} (hM : Mem B H L) (hk : q.Ok s) (hf : s.Fit) (ht : Take L (q.own s) L' := by (repeat (first | exact Take.here | apply Take.there))) : ∃ w H', Call Tryz.prog 37 [.agg (q.c s)] H w H' ∧ w = .tup [] ∧ Mem B H' L' :=
 spoilState_ B H L' s q.u q.mv q.ev q.sv q.rvs q.xs (Mem.unpacked (L := stOwn q.u q.mv q.ev q.sv q.rvs q.xs s) (hM.front ht)) hk.lk hk.val hf
theorem pert_clip (r m : Int) (b : Nat) : pertR r m b = (clip (turnP r (b % 2 == 1)) 64 16384, clip (turnP m (decide (2 ≤ b))) 0 58982) := by
 unfold pertR clip
 ext
 ·show min _ _ = _
  simp only
  split <;> (try split) <;> omega
 ·show min _ _ = _
  simp only
  split <;> (try split) <;> omega
theorem refPerturb_ (H : Heap) (r m : Int) (b : Nat) (hy : hyperMay r m = true) (hb : b < 4) : Call Tryz.prog 184 [.agg [.int .i64 r, .int .i64 m], .int .i64 b] H (.tup [.agg [.int .i64 (pertR r m b).1, .int .i64 (pertR r m b).2], .int .i64 0]) H := by
 refine call_pure fit mixed Tryz.func184 rfl rfl rfl (by kernel_rfl) rfl fun hM => ?_
 refine wq_seq (wq_line ?_)
 refine l_boxM T43 fun b1 H1 hM => ?_
 refine l_newM (cs := [.int .i64 0, .int .i64 0]) T43 rfl fun b2 H2 hM => ?_
 have c0 := refHyperMay_ H2 r m
 rw [hy] at c0
 have c1 := upTo1_ H2 b 0 3
 rw [within_iff.2 (by omega)] at c1
 rw [pert_clip]
 have c2 := fun dn => factor_ H2 dn
 have c3 := fun x dn => refTimes_ H2 x (if dn = true then 52429 else 81920)
 have e1 := rem_two b
 have e2 : decide ((b : Int) ≥ 2) = decide (2 ≤ b) := by
  by_cases h : 2 ≤ b
  ·rw [decide_eq_true h, decide_eq_true (by omega)]
  ·rw [decide_eq_false h, decide_eq_false (by omega)]
 clear hy hb
 generalize (b % 2 == 1) = d1 at *
 generalize decide (2 ≤ b) = d2 at *
 have x1 := refWithin_ H2 (turnP r d1) 64 16384 (by decide)
 have x2 := refWithin_ H2 (turnP m d2) 0 58982 (by decide)
 have c4 := c3 r d1
 have c5 := c3 m d2
 have c6 := c2 d1
 have c7 := c2 d2
 rw [show times r (if d1 = true then 52429 else 81920) = turnP r d1 from rfl] at c4
 rw [show times m (if d2 = true then 52429 else 81920) = turnP m d2 from rfl] at c5
 generalize (if d1 = true then (52429 : Int) else 81920) = f1 at *
 generalize (if d2 = true then (52429 : Int) else 81920) = f2 at *
 clear c2 c3
 refine goM ?_
 refine l_callG c0 ?_
 refine goM ?_
 refine l_callG c1 ?_
 refine goM ?_
 refine d_call0G c6 ?_
 refine goM ?_
 refine d_call0G c4 ?_
 refine goM ?_
 refine d_call0G x1 ?_
 refine goM ?_
 refine d_call0G c7 ?_
 refine goM ?_
 refine d_call0G c5 ?_
 refine goM ?_
 refine d_call0G x2 ?_
 refine goM ?_
 refine l_putM T43 fun H3 hM => ?_
 refine goM ?_
 exact end_2 (by first | exact .inl rfl | exact .inr rfl) ⟨rfl, hM.pre⟩
theorem refTried_ (H : Heap) (c : Cfg) (rv : V) (r m : Int) (k : Nat) (hr : rv.cells = [rv] ∧ rv.isTup = false) (hc : cfgMay c = true) (hh : hyperMay r m = true) (hk : k ≤ 1000000) :
  Call Tryz.prog 105 [.agg (cfgC c rv), .agg [.int .i64 r, .int .i64 m], .int .i64 k] H (.agg [.int .i64 (triedR c r m k).1, .int .i64 (triedR c r m k).2]) H := by
 obtain ⟨_, _, ⟨hs0, hs1⟩, _⟩ := cfgMay_split hc
 have hsn : ((c.seed.toNat : Nat) : Int) = c.seed := Int.toNat_of_nonneg hs0
 have w1 := wrap_succ (n := k) (by omega)
 have w2 : IntKind.i64.wrap ((k : Int) + 2) = (k : Int) + 2 := wrap_i64 (by omega) (by omega)
 refine call_pure fit mixed Tryz.func105 rfl rfl rfl (by kernel_rfl) rfl fun hM => ?_
 refine wq_seq (wq_line ?_)
 refine l_boxM T26 fun b1 H1 hM => ?_
 refine l_boxM T43 fun b2 H2 hM => ?_
 refine l_newM (cs := [.int .i64 0, .int .i64 0]) T43 rfl fun b3 H3 hM => ?_
 unfold triedR
 obtain ⟨ct, hct⟩ : ∃ q, c.pert = q := ⟨_, rfl⟩
 cases ct with
 | true =>
  rw [if_pos hct]
  have hb4 : pickN c.seed.toNat (k + 1) 4 < 4 := pickN_lt (s := c.seed.toNat) (k := k + 1) (b := 4) (by decide)
  have c1 : Call Tryz.prog 174 [.int .i64 c.seed, .int .i64 ((k : Int) + 1), .int .i64 4] H3 (.tup [.int .i64 (pickN c.seed.toNat (k + 1) 4 : Nat), .int .i64 0]) H3 := by
   have := refPick_ H3 c.seed.toNat (k + 1) 4 (by omega) (by omega) (by decide) (by decide)
   rw [hsn] at this
   exact this
  have c2 := refPerturb_ H3 r m (pickN c.seed.toNat (k + 1) 4) hh hb4
  generalize pickN c.seed.toNat (k + 1) 4 = x at *
  generalize pertR r m x = z at *
  clear hsn
  refine goM ?_
  refine l_callG c1 ?_
  refine goM ?_
  refine l_callG c2 ?_
  refine goM ?_
  refine l_newM (cs := [.int .i64 0, .int .i64 0]) T43 rfl fun b4 H4 hM => ?_
  refine l_putM T43 fun H5 hM => ?_
  refine goM ?_
  refine l_putM T43 fun H6 hM => ?_
  refine goM ?_
  exact end_1 (by first | exact .inl rfl | exact .inr rfl) ⟨rfl, hM.pre⟩
 | false =>
  rw [if_neg (by rw [hct]; decide)]
  have c1 : Call Tryz.prog 185 [.int .i64 c.seed, .int .i64 ((k : Int) + 2)] H3 (.tup [.agg [.int .i64 (rateN c.seed.toNat (k + 2) : Nat), .int .i64 (momN c.seed.toNat (k + 2) : Nat)], .int .i64 0]) H3 := by
   have := refResample_ H3 c.seed.toNat (k + 2) (by omega) (by omega)
   rw [hsn] at this
   exact this
  generalize rateN c.seed.toNat (k + 2) = a at *
  generalize momN c.seed.toNat (k + 2) = b at *
  clear hsn
  refine goM ?_
  refine l_callG c1 ?_
  refine goM ?_
  refine l_newM (cs := [.int .i64 0, .int .i64 0]) T43 rfl fun b4 H4 hM => ?_
  refine l_putM T43 fun H5 hM => ?_
  refine goM ?_
  refine l_putM T43 fun H6 hM => ?_
  refine goM ?_
  exact end_1 (by first | exact .inl rfl | exact .inr rfl) ⟨rfl, hM.pre⟩
theorem copyState22_ (H : Heap) (s : St) (rv mv ev sv : V) (xs : List MR) (ha : StAt H rv mv ev sv xs s) (hf : s.Fit) :
  ∃ w H', Call Tryz.prog 100 [.agg (stC s.c rv mv ev sv)] H w H' ∧ ∃ u mv' ev' sv' rvs xs', w = .agg (stC s.c u mv' ev' sv') ∧ Like rvs s.c.rows ∧ xs'.map MR.val = s.ms ∧ Mem H H' (stOwn u mv' ev' sv' rvs xs' s) := by
 obtain ⟨z1, z2, z3, z4⟩ := ha.celled
 have l4 := hf.es
 have l5 := hf.st
 refine call_mem fit mixed Tryz.func100 rfl rfl rfl (by kernel_rfl) fun hM => ?_
 refine wq_seq (wq_line ?_)
 refine l_boxM T33 fun b1 H1 hM => ?_
 refine l_newM (cs := zeroSt) T33 rfl fun b2 H2 hM => ?_
 obtain ⟨n, hn⟩ : ∃ n, xs.length = n := ⟨_, rfl⟩
 have hlen := ha.ms.len T29 rfl
 rw [hn] at hlen
 have hkx := hf.kx ha
 have hnb : n * 80 ≤ 140737488351232 := by have := hf.ms; rw [← hn, ha.len]; exact this
 refine goM ?_
 obtain ⟨_, H3, c1, u, rvs, rfl, hlk, m1⟩ := copyConfig22_ H2 s.c rv (ha.rows.mono hM.pre) hf.c
 refine l_callG c1 ?_
 have s7 : u.cells = [u] ∧ u.isTup = false := by obtain ⟨_, h, _⟩ := rows_pack (m1.fact .here) hlk; exact h.cells
 replace hM := hM.call1 m1
 clear c1 m1
 refine goM ?_
 refine l_newM (cs := zeroSt) T33 rfl fun b3 H4 hM => ?_
 refine l_putM T33 fun H5 hM => ?_
 refine goM ?_
 have hM0 : Mem H H5 [.ro (pack (mems [])), .own 6 mrC .nils [], .box b3 (stC s.c u .nils .nils .nils), .ro (pack (rowsR u rvs s.c.rows)), .box b2 zeroSt, .box b1 (stC s.c rv mv ev sv)] := Mem.packed (L := []) (hM.nil 6 mrC)
 refine wq_loop (fun cc ρ h => ∃ (k : Nat) (v : V) (ys : List MR), k ≤ n ∧ cc = n - k ∧ ys.map MR.val = (xs.take k).map MR.val ∧ Mem H h [.ro (pack (mems ys)), .own 6 mrC v ys, .box b3 (stC s.c u v .nils .nils), .ro (pack (rowsR u rvs s.c.rows)), .box b2 zeroSt, .box b1 (stC s.c rv mv ev sv)] ∧ ρ 1 = .ptr b1 0 ∧ ρ 2 = .ptr b2 0 ∧ ρ 3 = .ptr b3 0 ∧ ρ 4 = .int .i64 (k : Int)) ⟨0, .nils, [], Nat.zero_le _, rfl, rfl, hM0, by simp [put_app, put_none, rho0_app, *]⟩ ?_
 repeat clear hM
 clear hM0
 rintro _ ρ h ⟨k, v, ys, hk, rfl, hys, hM, g1, g2, g3, g4⟩
 have t1 := (hM.sl (v := v) (xs := ys) (by (repeat (first | exact Has.here | apply Has.there)))).cells
 have hyl : ys.length = k := by have := congrArg List.length hys; simp only [List.length_map, List.length_take] at this; omega
 refine goM ?_
 refine cond_go (fun hb => ?_) (fun hb => ?_)
 ·have hk' : k < n := by simpa using hb
  clear hb
  obtain ⟨x, hx⟩ : ∃ x, xs[k]? = some x := ⟨xs[k]'(by omega), by simp⟩
  have hxm := List.mem_of_getElem? hx
  have hka := ha.ks x hxm
  have hkf := hkx x hxm
  obtain ⟨bo, o, hi, lo, _, _⟩ := mr_at (ha.ms.mono hM.pre) hx
  have hw := wrap_succ (n := k) (by omega)
  have s1 := hka.ws.cells
  have s2 := hka.vs.cells
  have htk : (xs.take (k + 1)).map MR.val = (xs.take k).map MR.val ++ [x.val] := by rw [List.take_add_one, hx]; simp
  obtain ⟨xw, xv, xk, xh⟩ := x
  simp only at lo s1 s2 hka hkf
  clear hx hxm
  refine goM ?_
  refine l_newM (cs := zeroMem) T51 rfl fun b5 H4 hM => ?_
  refine l_putM T51 fun H5 hM => ?_
  refine goM ?_
  obtain ⟨_, H6, c1, a, b', rfl, m1⟩ := copyCheck22_ H5 xw xv xk (hka.mono hM.pre) hkf
  refine l_callG c1 ?_
  have s3 := (m1.sl .here).cells
  have s4 := (m1.sl (.there .here)).cells
  replace hM := hM.call2 m1
  clear c1 m1
  refine goM ?_
  refine l_putM T45 fun H7 hM => ?_
  refine goM ?_
  refine l_sliceM mrC [⟨a, b', xk, xh⟩] (mC a b' xk xh) T29 rfl T51 rfl (cells_mrs [⟨a, b', xk, xh⟩]) (by decide) fun e1 H8 hM => ?_
  refine goM ?_
  refine l_appM (hM.sl .here) (xs := ys) (hh := by (repeat (first | exact Has.here | apply Has.there))) (hb := by rw [hyl]; show (k + 1) * 80 ≤ _ ∧ k + 1 ≤ _; omega) fun v' H9 hM => ?_
  have s6 := (hM.sl (v := v') (xs := ys ++ [⟨a, b', xk, xh⟩]) (by (repeat (first | exact Has.here | apply Has.there)))).cells
  refine goM ?_
  refine l_putM T29 fun H10 hM => ?_
  refine goM ?_
  have h1 := ((hM.front (r := .ro (pack (mems ys))) (by (repeat (first | exact Take.here | apply Take.there)))).front (r := .own 1 intC b' xk.vs) (by (repeat (first | exact Take.here | apply Take.there)))).front (r := .own 1 intC a xk.ws) (by (repeat (first | exact Take.here | apply Take.there)))
  have h2 := Mem.memsMore (x := ⟨a, b', xk, xh⟩) h1
  have h3 := ((h2.front (r := .box b3 (stC s.c u v' .nils .nils)) (by (repeat (first | exact Take.here | apply Take.there)))).front (r := .own 6 mrC v' (ys ++ [⟨a, b', xk, xh⟩])) (by (repeat (first | exact Take.here | apply Take.there)))).front (r := .ro (pack (mems (ys ++ [⟨a, b', xk, xh⟩])))) (by (repeat (first | exact Take.here | apply Take.there)))
  refine ⟨n - (k + 1), by omega, k + 1, v', ys ++ [⟨a, b', xk, xh⟩], hk', rfl, ?_, h3.sub (by (repeat (first | exact List.Sublist.slnil | exact List.Sublist.refl _ | refine List.Sublist.cons_cons _ ?_ | refine List.Sublist.cons _ ?_))), by simp [put_app, put_none, *]⟩
  rw [htk, List.map_append, hys]; rfl
 ·have hk' : k = n := by have : ¬ k < n := by simpa using hb
                         omega
  subst hk'
  clear hb
  rw [List.take_of_length_le (by omega), ha.val] at hys
  refine goM ?_
  refine l_sliceM (sz := 6) evC [] [] T30 rfl T61 rfl Cells.nil (by decide) fun e1 H3 hM => ?_
  refine goM ?_
  refine l_appM (ha.es.mono hM.pre) (xs := []) (hb := by simp only [List.length_nil]; show (0 + s.es.length) * 48 ≤ _ ∧ _; omega) fun ev' H4 hM => ?_
  have s5 := (hM.sl .here).cells
  refine goM ?_
  refine l_putM T30 fun H5 hM => ?_
  refine goM ?_
  refine l_sliceM (sz := 3) entC [] [] T31 rfl T73 rfl Cells.nil (by decide) fun e2 H6 hM => ?_
  refine goM ?_
  refine l_appM (ha.st.mono hM.pre) (xs := []) (hb := by simp only [List.length_nil]; show (0 + s.st.length) * 32 ≤ _ ∧ _; omega) fun sv' H7 hM => ?_
  have s6 := (hM.sl .here).cells
  refine goM ?_
  refine l_putM T31 fun H8 hM => ?_
  refine goM ?_
  refine l_putM T33 fun H9 hM => ?_
  refine goM ?_
  refine end_1 (by first | exact .inl rfl | exact .inr rfl) ⟨u, v, ev', sv', rvs, ys, rfl, hlk, hys, ?_⟩
  have h1 := (((hM.front (r := .own 3 entC sv' ([] ++ s.st)) (by (repeat (first | exact Take.here | apply Take.there)))).front (r := .own 6 evC ev' ([] ++ s.es)) (by (repeat (first | exact Take.here | apply Take.there)))).front (r := .own 6 mrC v ys) (by (repeat (first | exact Take.here | apply Take.there)))).front (r := .ro (pack (mems ys))) (by (repeat (first | exact Take.here | apply Take.there)))
  exact (h1.front (r := .ro (pack (rowsR u rvs s.c.rows))) (by (repeat (first | exact Take.here | apply Take.there)))).sub (by unfold stOwn; (repeat (first | exact List.Sublist.slnil | exact List.Sublist.refl _ | refine List.Sublist.cons_cons _ ?_ | refine List.Sublist.cons _ ?_)))
abbrev spR (u mv ev sv : V) (rvs : List (V × Int)) (ys : List MR) (c : Cfg) (es : List Ev) (st : List Ent) (L : List Res) : List Res :=
 .own 6 mrC mv ys :: .own 6 evC ev es :: .own 3 entC sv st :: .ro (pack (mems ys)) :: .ro (pack (rowsR u rvs c.rows)) :: L
theorem refStored_ {B H : Heap} {L : List Res} {u mv ev sv : V} {rvs : List (V × Int)} {ys : List MR} {c : Cfg} {es : List Ev} {st : List Ent} {p : Nat} {y : MR} (hM : Mem B H (spR u mv ev sv rvs ys c es st L)) (hq : Celled u mv ev sv) (hy : ys[p]? = some y) (hf : kFits c y.k = true) (hl : st.length ≤ 100) :
  ∃ w H', Call Tryz.prog 107 [.agg (stC c u mv ev sv), .int .i64 p] H w H' ∧ ∃ sv', w = .agg (stC c u mv ev sv') ∧ Mem B H' (spR u mv ev sv' rvs (ys.set p (headMR st y)) c es (dropS (put2 st (textK y.k)).1 y.h).1 L) := by
 obtain ⟨q1, q2, q3, q4⟩ := hq
 have hml : p < ys.length := (List.getElem?_eq_some_iff.1 hy).1
 obtain ⟨cb, co, hi, _⟩ := mr_at (hM.sl (v := mv) (xs := ys) (by (repeat (first | exact Has.here | apply Has.there)))) hy
 have hcm : chkMay y.k.ws y.k.vs y.k.r y.k.m y.k.t = true := by
  unfold kFits memFits at hf
  rw [Bool.and_eq_true] at hf
  exact hf.1
 have hka0 := fun (H1 : Heap) (hp : (pack (mems ys)).p H1) => mems_at hp y (List.mem_of_getElem? hy)
 obtain ⟨yw, yv, yk, yh⟩ := y
 simp only at hcm hf hka0
 have s12 := hka0 H (hM.fact (F := pack (mems ys)) (by (repeat (first | exact Has.here | apply Has.there))))
 have s1 := s12.ws.cells
 have s2 := s12.vs.cells
 clear s12
 have e1 : mems (ys.set p (headMR st ⟨yw, yv, yk, yh⟩)) = mems ys := mems_same hy rfl rfl rfl rfl
 unfold headMR at e1 ⊢
 simp only at e1 ⊢
 refine call_turn fit mixed hM Tryz.func107 rfl rfl rfl (by kernel_rfl) fun _ => ?_
 refine wq_seq (wq_line ?_)
 refine l_boxM T33 fun b1 H0 hM => ?_
 refine l_newM (cs := zeroSt) T33 rfl fun b2 H1 hM => ?_
 obtain ⟨l0, _, _, _⟩ := mr_in (hM.sl (v := mv) (xs := ys) (by (repeat (first | exact Has.here | apply Has.there)))) hi hy
 simp only at l0
 have hka := hka0 H1 (hM.fact (F := pack (mems ys)) (by (repeat (first | exact Has.here | apply Has.there))))
 have c1 : Call Tryz.prog 90 [.agg (kC yw yv yk)] H1 (.tup [.str (textK yk), .int .i64 0]) H1 := refPut_good H1 yw yv yk.ws yk.vs yk.r yk.m yk.t hka.ws hka.vs hcm
 obtain ⟨_, H2, c2, x1, rfl, m1⟩ := refPut15_ H1 sv st (textK yk) (hM.sl (v := sv) (xs := st) (by (repeat (first | exact Has.here | apply Has.there)))) (by omega)
 have t1 := (m1.sl .here).cells
 have hpl := putS_len st (textK yk)
 clear hka0
 refine goM ?_
 refine l_callG c1 ?_
 refine goM ?_
 refine l_callG c2 ?_
 replace hM := hM.call1 m1
 clear c1 c2 m1 l0 hka
 unfold put2 at e1 ⊢
 by_cases hq : (putS st (textK yk)).2.2 = 0
 ·have q0 : ((putS st (textK yk)).2.2 != 0) = false := by rw [hq]; rfl
  rw [if_pos hq] at e1 ⊢
  generalize putS st (textK yk) = o at *
  obtain ⟨st', id', er'⟩ := o
  simp only at q0 hM hpl e1 ⊢
  obtain ⟨_, _, _, l5⟩ := mr_in (hM.sl (v := mv) (xs := ys) (by (repeat (first | exact Has.here | apply Has.there)))) hi hy
  simp only at l5
  obtain ⟨_, H3, c3, x2, rfl, m2⟩ := refDrop15_ H2 x1 st' yh (hM.sl (v := x1) (xs := st') (by (repeat (first | exact Has.here | apply Has.there)))) (by omega)
  have t2 := (m2.sl .here).cells
  refine goM ?_
  refine l_callG c3 ?_
  replace hM := hM.call1 m2
  clear c3 m2 l5
  refine goM ?_
  refine l_putM T31 fun H4 hM => ?_
  obtain ⟨H5, st4, hM4⟩ := mr_put hM (u := mv) (ys := ys) (by (repeat (first | exact Has.here | apply Has.there))) hy hi 5 T3 (by decide) (w := .int .i64 id') (y' := ⟨yw, yv, yk, id'⟩) rfl rfl rfl
  rw [← e1] at hM4
  refine goM ?_
  refine l_stM st4 ?_
  clear hM
  have hM := hM4
  clear hM4
  refine goM ?_
  refine l_putM T33 fun H6 hM => ?_
  refine goM ?_
  refine end_1 (by first | exact .inl rfl | exact .inr rfl) ⟨x2, rfl, ?_⟩
  have h1 := (hM.front (r := .own 3 entC x2 (dropS st' yh).1) (by (repeat (first | exact Take.here | apply Take.there)))).front (r := .own 6 evC ev es) (by (repeat (first | exact Take.here | apply Take.there)))
  exact (h1.front (r := .own 6 mrC mv (ys.set p ⟨yw, yv, yk, id'⟩)) (by (repeat (first | exact Take.here | apply Take.there)))).sub (by (repeat (first | exact List.Sublist.slnil | exact List.Sublist.refl _ | refine List.Sublist.cons_cons _ ?_ | refine List.Sublist.cons _ ?_)))
 ·have q0 : ((putS st (textK yk)).2.2 != 0) = true := by simpa using hq
  rw [if_neg hq] at e1 ⊢
  generalize putS st (textK yk) = o at *
  obtain ⟨st', id', er'⟩ := o
  simp only at q0 hM hpl
  obtain ⟨_, H3, c3, x2, rfl, m2⟩ := refSweep15_ H2 sv st (hM.sl (v := sv) (xs := st) (by (repeat (first | exact Has.here | apply Has.there)))) (by omega)
  have hsl := sweepS_len st
  generalize sweepS st = o at *
  obtain ⟨st2, er2⟩ := o
  simp only at hsl m2 e1 ⊢
  have t2 := (m2.sl .here).cells
  refine goM ?_
  refine l_callG c3 ?_
  replace hM := hM.call1 m2
  clear c3 m2
  refine goM ?_
  obtain ⟨_, H4, c4, x3, rfl, m3⟩ := refPut15_ H3 x2 st2 (textK yk) (hM.sl (v := x2) (xs := st2) (by (repeat (first | exact Has.here | apply Has.there)))) (by omega)
  have t3 := (m3.sl .here).cells
  have hpl2 := putS_len st2 (textK yk)
  refine l_callG c4 ?_
  replace hM := hM.call1 m3
  clear c4 m3
  generalize putS st2 (textK yk) = o at *
  obtain ⟨st3, id3, er3⟩ := o
  simp only at hM hpl2 e1 ⊢
  obtain ⟨_, _, _, l5⟩ := mr_in (hM.sl (v := mv) (xs := ys) (by (repeat (first | exact Has.here | apply Has.there)))) hi hy
  simp only at l5
  obtain ⟨_, H5, c5, x4, rfl, m4⟩ := refDrop15_ H4 x3 st3 yh (hM.sl (v := x3) (xs := st3) (by (repeat (first | exact Has.here | apply Has.there)))) (by omega)
  have t4 := (m4.sl .here).cells
  refine goM ?_
  refine l_callG c5 ?_
  replace hM := hM.call1 m4
  clear c5 m4 l5
  refine goM ?_
  refine l_putM T31 fun H6 hM => ?_
  obtain ⟨H7, st7, hM7⟩ := mr_put hM (u := mv) (ys := ys) (by (repeat (first | exact Has.here | apply Has.there))) hy hi 5 T3 (by decide) (w := .int .i64 id3) (y' := ⟨yw, yv, yk, id3⟩) rfl rfl rfl
  rw [← e1] at hM7
  refine goM ?_
  refine l_stM st7 ?_
  clear hM
  have hM := hM7
  clear hM7
  refine goM ?_
  refine l_putM T33 fun H8 hM => ?_
  refine goM ?_
  refine end_1 (by first | exact .inl rfl | exact .inr rfl) ⟨x4, rfl, ?_⟩
  have h1 := (hM.front (r := .own 3 entC x4 (dropS st3 yh).1) (by (repeat (first | exact Take.here | apply Take.there)))).front (r := .own 6 evC ev es) (by (repeat (first | exact Take.here | apply Take.there)))
  exact (h1.front (r := .own 6 mrC mv (ys.set p ⟨yw, yv, yk, id3⟩)) (by (repeat (first | exact Take.here | apply Take.there)))).sub (by (repeat (first | exact List.Sublist.slnil | exact List.Sublist.refl _ | refine List.Sublist.cons_cons _ ?_ | refine List.Sublist.cons _ ?_)))
theorem upTo_r (H : Heap) (x a b : Int) : Call Tryz.prog 92 [.int .i64 x, .int .i64 a, .int .i64 b] H (.bool (within x a b)) H := by
 refine call_pure fit mixed Tryz.func92 rfl rfl rfl (by kernel_rfl) rfl fun hM => ?_
 unfold within
 obtain ⟨q, hq⟩ : ∃ q, decide (x ≥ a) = q := ⟨_, rfl⟩
 rw [hq]
 cases q
 ·refine goM ?_
  exact end_1 (by first | exact .inl rfl | exact .inr rfl) ⟨rfl, hM.pre⟩
 ·refine goM ?_
  refine end_1 (by first | exact .inl rfl | exact .inr rfl) ⟨?_, hM.pre⟩
  simp
theorem refRank_ (H : Heap) (sv : V) (ss : List Int) (hs : Sl 1 intC H sv ss) (hl : ss.length ≤ 2 ^ 47) : ∃ w H', Call Tryz.prog 183 [sv] H w H' ∧ ∃ u, w = .tup [u, .int .i64 (rankE ss)] ∧ Mem H H' [.own 1 natC u (rankL ss)] := by
 have s0 := hs.cells
 have hlen := hs.len T27 rfl
 have c1 := refVecMay_ H sv ss hs hl
 refine call_mem fit mixed Tryz.func183 rfl rfl rfl (by kernel_rfl) fun hM => ?_
 unfold rankE rankL rankMay
 obtain ⟨n, hn⟩ : ∃ n, ss.length = n := ⟨_, rfl⟩
 have c0 := upTo_r H (n : Int) 1 8
 have hw8 : within (n : Int) 1 8 = (decide (1 ≤ n) && decide (n ≤ 8)) := by apply Bool.eq_iff_iff.2; simp [within]; omega
 rw [hw8] at c0
 rw [hn] at hlen hl ⊢
 obtain ⟨q1, hq1⟩ : ∃ q, (decide (1 ≤ n) && decide (n ≤ 8)) = q := ⟨_, rfl⟩
 rw [hq1] at c0 ⊢
 obtain ⟨q2, hq2⟩ : ∃ q, vecMay ss = q := ⟨_, rfl⟩
 rw [hq2] at c1 ⊢
 clear hw8
 refine goM ?_
 refine l_callG c0 ?_
 cases q1 with
 | false =>
  refine goM ?_
  exact end_2 (by first | exact .inl rfl | exact .inr rfl) ⟨.nils, rfl, hM.nil 1 natC⟩
 | true =>
  refine goM ?_
  refine l_callG c1 ?_
  cases q2 with
  | false =>
   refine goM ?_
   exact end_2 (by first | exact .inl rfl | exact .inr rfl) ⟨.nils, rfl, hM.nil 1 natC⟩
  | true =>
   have h18 : 1 ≤ n ∧ n ≤ 8 := by simpa using hq1
   simp only [Bool.true_and, if_true]
   clear c0 c1 hq1 hq2
   refine goM ?_
   refine wq_loop (fun m ρ hp => ∃ (i : Nat) (u : V), i ≤ n ∧ m = n - i ∧ Mem H hp [.own 1 natC u (rankN (scoreAt ss) i)] ∧ ρ 0 = sv ∧ ρ 4 = u ∧ ρ 5 = .int .i64 (i : Nat)) ⟨0, .nils, Nat.zero_le _, rfl, hM.nil 1 natC, rfl, rfl, rfl⟩ ?_
   clear hM
   rintro _ ρ hp ⟨i, u, hi, rfl, hM, h0, h4, h5⟩
   have hul := (hM.sl .here).len T27 rfl
   rw [rankN_len] at hul
   refine goM ?_
   refine cond_go (fun hb => ?_) (fun hb => ?_)
   ·have hi' : i < n := by simpa using hb
    clear hb
    have hrl := rankN_len (scoreAt ss) i
    have hrm := rankN_mem (scoreAt ss) i
    have hwi := wrap_succ (n := i) (by omega)
    have hnext : rankN (scoreAt ss) (i + 1) = insR (scoreAt ss) i (rankN (scoreAt ss) i) := rfl
    rw [insR, hrl] at hnext
    refine goM ?_
    refine l_sliceM natC [i] [.int .i64 (i : Int)] T27 rfl T3 rfl (Cells.one (sz := 1) rfl rfl) (by decide) fun e1 H1 hM => ?_
    refine goM ?_
    refine l_appM (hM.sl .here) (xs := rankN (scoreAt ss) i) (hb := by rw [hrl]; simp only [List.length_cons, List.length_nil]; omega) fun u2 H2 hM => ?_
    replace hM : Mem H H2 [.own 1 natC u2 (rankN (scoreAt ss) i ++ [i])] := hM.subG
    rw [← mid_end, hrl] at hM
    generalize rankN (scoreAt ss) i = row at *
    have s2 := (hM.sl .here).cells
    clear hul
    refine goM ?_
    refine wq_loop (fun m ρ hp => ∃ k y : Nat, k ≤ i ∧ m = k ∧ insPos (scoreAt ss) i row i = insPos (scoreAt ss) i row k ∧ Mem H hp [.own 1 natC u2 (mid row k y [])] ∧ ρ 0 = sv ∧ ρ 4 = u2 ∧ ρ 5 = .int .i64 (i : Nat) ∧ ρ 6 = .int .i64 (k : Nat)) ⟨i, i, Nat.le_refl _, rfl, rfl, hM, by simp [put_app, put_none, *], by simp [put_app, put_none, *], by simp [put_app, put_none, *], by simp [put_app, put_none, *]⟩ ?_
    clear hM h0 h4 h5
    clear ρ
    rintro k ρ hp ⟨_, y, hk, rfl, hpos, hM, h0, h4, h5, h6⟩
    -- what comes behind the inner loop
    have leave : (k = 0 ∨ ¬ scoreAt ss (row.getD (k - 1) 0) > scoreAt ss i) → ∃ b o H3, idxV T 27 u2 (k : Int) = some (.ptr b o) ∧ storeV T 3 hp b o (.int .i64 (i : Int)) = some H3 ∧ Mem H H3 [.own 1 natC u2 (rankN (scoreAt ss) (i + 1))] := fun h => by
     have e : insPos (scoreAt ss) i row i = k := by rw [hpos, insPos_stop h]
     obtain ⟨b3, hi3, put1⟩ := hM.elem .here T27 rfl T3 rfl (k := k) (by rw [mid_len _ _ (by omega)]; omega)
     obtain ⟨H3, st1, hM1⟩ := put1 (.int .i64 (i : Int)) i rfl rfl rfl
     rw [mid_put _ _ _ (by omega), ← e, ← hnext] at hM1
     exact ⟨b3, _, H3, hi3, st1, hM1⟩
    cases k with
    | zero =>
     obtain ⟨b3, o3, H3, hi3, st1, hM2⟩ := leave (.inl rfl)
     clear leave hM
     have hd : decide (((0 : Nat) : Int) > 0) = false := rfl
     refine goM ?_
     refine l_stM st1 ?_
     refine goM ?_
     exact ⟨n - (i + 1), by omega, i + 1, u2, hi', rfl, hM2, by simp [put_app, put_none, *]⟩
    | succ k =>
     have hd : decide (((k + 1 : Nat) : Int) > 0) = true := decide_eq_true (by omega)
     have hw1 : IntKind.i64.wrap (((k + 1 : Nat) : Int) - 1) = (k : Int) := by rw [wrap_i64 (by omega) (by omega)]; omega
     have hki : k < row.length := by omega
     obtain ⟨x, hx⟩ : ∃ x, row.getD k 0 = x := ⟨_, rfl⟩
     have hxn : x < n := by
      have : x ∈ row := by rw [← hx, List.getD_eq_getElem?_getD, List.getElem?_eq_getElem hki]; exact List.getElem_mem _
      have := (hrm x).1 this; omega
     have g2 := mid_low y [] (Nat.lt_succ_self k) (by omega : k + 1 ≤ row.length)
     rw [hx] at g2
     obtain ⟨b2, o2, _, hi2', rfl, _, hlo2, _⟩ := (hM.sl .here).get T27 rfl T3 rfl g2
     have ho2 := loadV_one T3 rfl hlo2
     obtain ⟨b4, o4, _, hi4', rfl, _, hlo4, _⟩ := (hs.mono hM.pre).get T27 rfl T3 rfl (getDI (xs := ss) (k := x) (by omega))
     have ho4 := loadV_one T3 rfl hlo4
     obtain ⟨b5, o5, _, hi5', rfl, _, hlo5, _⟩ := (hs.mono hM.pre).get T27 rfl T3 rfl (getDI (xs := ss) (k := i) (by omega))
     have ho5 := loadV_one T3 rfl hlo5
     obtain ⟨b3, hi3, put1⟩ := hM.elem .here T27 rfl T3 rfl (k := k + 1) (by rw [mid_len _ _ (by omega)]; omega)
     obtain ⟨H1, st1, hM1⟩ := put1 (.int .i64 (x : Int)) x rfl rfl rfl
     rw [← hx, mid_move _ _ hki, hx] at hM1
     have hpos2 : decide (ss.getD x 0 > ss.getD i 0) = true → insPos (scoreAt ss) i row (k + 1) = insPos (scoreAt ss) i row k := fun h => insPos_succ (by rw [hx]; simpa [scoreAt] using h)
     have hleave2 : decide (ss.getD x 0 > ss.getD i 0) = false → _ := fun h => leave (.inr (by rw [Nat.add_sub_cancel, hx]; simpa [scoreAt] using h))
     obtain ⟨t, ht⟩ : ∃ t, decide (ss.getD x 0 > ss.getD i 0) = t := ⟨_, rfl⟩
     rw [ht] at hleave2 hpos2
     clear leave put1 hlo2 hlo4 hlo5 g2 hnext
     cases t with
     | false =>
      obtain ⟨b6, o6, H3, hi6, st6, hM2⟩ := hleave2 rfl
      rw [hi3] at hi6
      cases hi6
      clear hleave2 hpos2 hM hM1
      refine goM ?_
      refine l_stM st6 ?_
      refine goM ?_
      exact ⟨n - (i + 1), by omega, i + 1, u2, hi', rfl, hM2, by simp [put_app, put_none, *]⟩
     | true =>
      have hpos3 := hpos2 rfl
      clear hleave2 hpos2 hM
      refine goM ?_
      refine l_stM st1 ?_
      refine goM ?_
      exact ⟨k, by omega, k, x, by omega, rfl, by rw [hpos, hpos3], hM1, by simp [put_app, put_none, *]⟩
   ·have hi' : i = n := by have : ¬ i < n := by simpa using hb
                           omega
    subst hi'
    clear hb
    refine goM ?_
    exact end_2 (by first | exact .inl rfl | exact .inr rfl) ⟨u, rfl, hM⟩
theorem donorOk_eq {ss : List Int} {m cut x : Int} (h : rankMay ss = true) : donorOk ss m cut x = (within m 0 ((ss.length : Int) - 1) && (within cut 1 ((ss.length / 2 : Nat) : Int) && within x 0 65535)) := by
 unfold donorOk within
 rw [h, Bool.true_and]
 apply Bool.eq_iff_iff.2
 simp only [Bool.and_eq_true, Bool.not_eq_true', decide_eq_true_eq, decide_eq_false_iff_not]
 omega
theorem lastOnes_mem {ss : List Int} {cut m : Int} : m ∈ lastOnes ss cut ↔ ∃ (t c : Nat), ss.length - cut.toNat ≤ t ∧ (rankL ss)[t]? = some c ∧ (c : Int) = m := by
 unfold lastOnes
 rw [List.mem_map]
 constructor
 ·rintro ⟨c, hc, rfl⟩
  obtain ⟨j, hj⟩ := List.mem_iff_getElem?.1 hc
  rw [List.getElem?_drop] at hj
  exact ⟨_, c, Nat.le_add_right _ _, hj, rfl⟩
 ·rintro ⟨t, c, ht, hc, rfl⟩
  refine ⟨c, List.mem_iff_getElem?.2 ⟨t - (ss.length - cut.toNat), ?_⟩, rfl⟩
  rw [List.getElem?_drop, show ss.length - cut.toNat + (t - (ss.length - cut.toNat)) = t by omega]
  exact hc
theorem refDonor_ (H : Heap) (sv : V) (ss : List Int) (m cut x : Int) (hs : Sl 1 intC H sv ss) (hl : ss.length ≤ 2 ^ 47) :
  Call Tryz.prog 102 [sv, .int .i64 m, .int .i64 cut, .int .i64 x] H (.tup [.int .i64 (donorR ss m cut x).1, .bool (donorR ss m cut x).2.1, .int .i64 (donorR ss m cut x).2.2]) H := by
 refine call_pure fit mixed Tryz.func102 rfl rfl rfl (by kernel_rfl) rfl fun hM => ?_
 obtain ⟨_, H1, c1, u, rfl, m1⟩ := refRank_ H sv ss hs hl
 have s1 := (m1.sl .here).cells
 have hM1 := hM.call1 m1
 have hsl := m1.sl .here
 have hlen := hsl.len T27 rfl
 have hlen0 := hs.len T27 rfl
 clear hM m1
 refine goM ?_
 refine l_callG c1 ?_
 clear c1
 unfold donorR
 unfold rankE
 cases hmay : rankMay ss with
 | false =>
  have e : donorOk ss m cut x = false := by unfold donorOk; rw [hmay]; rfl
  simp only [e, Bool.false_eq_true, if_false]
  refine goM ?_
  exact end_3 (by first | exact .inl rfl | exact .inr rfl) ⟨rfl, hM1.pre⟩
 | true =>
  obtain ⟨hrl, hn1, hn8⟩ := rankL_len hmay
  rw [donorOk_eq hmay]
  have hmem := lastOnes_mem (ss := ss) (cut := cut) (m := m)
  obtain ⟨n, hn⟩ : ∃ n, ss.length = n := ⟨_, rfl⟩
  rw [hrl] at hlen
  rw [hn] at hrl hn1 hn8 hlen hlen0 hmem ⊢
  have hq : IntKind.i64.wrap ((n : Int).tdiv 2) = ((n / 2 : Nat) : Int) := by
   rw [show (n : Int).tdiv 2 = ((n / 2 : Nat) : Int) from (Int.ofNat_tdiv n 2).symm]; exact wrap_nat (by omega)
  have hw0 : IntKind.i64.wrap ((n : Int) - 1) = (n : Int) - 1 := wrap_i64 (by omega) (by omega)
  have c2 := upTo_r H1 m 0 ((n : Int) - 1)
  have c3 := upTo_r H1 cut 1 ((n / 2 : Nat) : Int)
  have c4 := upTo_r H1 x 0 65535
  simp only [if_true]
  cases h2 : within m 0 ((n : Int) - 1) with
  | false =>
   rw [h2] at c2
   simp only [Bool.false_and, Bool.false_eq_true, if_false]
   refine goM ?_
   refine l_callG c2 ?_
   refine goM ?_
   exact end_3 (by first | exact .inl rfl | exact .inr rfl) ⟨rfl, hM1.pre⟩
  | true =>
   rw [h2] at c2
   cases h3 : within cut 1 ((n / 2 : Nat) : Int) with
   | false =>
    rw [h3] at c3
    simp only [Bool.true_and, Bool.false_and, Bool.false_eq_true, if_false]
    refine goM ?_
    refine l_callG c2 ?_
    refine goM ?_
    refine l_callG c3 ?_
    refine goM ?_
    exact end_3 (by first | exact .inl rfl | exact .inr rfl) ⟨rfl, hM1.pre⟩
   | true =>
    rw [h3] at c3
    cases h4 : within x 0 65535 with
    | false =>
     rw [h4] at c4
     simp only [Bool.true_and, Bool.and_false, Bool.false_eq_true, if_false]
     refine goM ?_
     refine l_callG c2 ?_
     refine goM ?_
     refine l_callG c3 ?_
     refine goM ?_
     refine l_callG c4 ?_
     refine goM ?_
     exact end_3 (by first | exact .inl rfl | exact .inr rfl) ⟨rfl, hM1.pre⟩
    | true =>
     rw [h4] at c4
     rw [within_iff] at h2 h3 h4
     simp only [Bool.true_and, if_true]
     obtain ⟨c, hc⟩ : ∃ c : Nat, cut = c := ⟨cut.toNat, by omega⟩
     obtain ⟨y, hy⟩ : ∃ y : Nat, x = y := ⟨x.toNat, by omega⟩
     subst hc; subst hy
     simp only [Int.toNat_natCast] at hmem ⊢
     have hw1 : IntKind.i64.wrap ((n : Int) - (c : Int)) = ((n - c : Nat) : Int) := by rw [wrap_i64 (by omega) (by omega)]; omega
     have hyc : y * c ≤ 65535 * c := Nat.mul_le_mul_right _ (by omega)
     have hq2 : y * c / 65536 < n := by omega
     have hw2 : IntKind.i64.wrap ((y : Int) * (c : Int)) = ((y * c : Nat) : Int) := by rw [← Int.natCast_mul]; exact wrap_nat (by omega)
     have hw3 : vbin T .shr 3 (.int .i64 ((y * c : Nat) : Int)) (.int .u64 16) = some (.int .i64 ((y * c / 65536 : Nat) : Int)) := by
      have e : ((y * c : Nat) : Int).fdiv (2 ^ (min ((16 : Int).toNat) IntKind.i64.bits)) = ((y * c / 65536 : Nat) : Int) := by
       rw [show (2 : Int) ^ (min ((16 : Int).toNat) IntKind.i64.bits) = ((65536 : Nat) : Int) by decide]
       exact (Int.ofNat_fdiv (y * c) 65536).symm
      simp only [vbin, shiftBin]
      rw [if_neg (by omega), e]
     have hg : (rankL ss)[y * c / 65536]? = some ((rankL ss).getD (y * c / 65536) 0) := by simp [List.getD_eq_getElem?_getD, hrl, hq2]
     obtain ⟨b1, o1, _, hi1, rfl, _, hlo1, _⟩ := hsl.get T27 rfl T3 rfl hg
     have ho1 := loadV_one T3 rfl hlo1
     have hpre := hM1.pre
     have hc1 : 1 ≤ c ∧ c ≤ n := by omega
     generalize (rankL ss).getD (y * c / 65536) 0 = d at *
     generalize y * c / 65536 = q at *
     generalize y * c = yc at *
     clear h2 h3 h4 hyc hq2 hg hlo1 hM1
     generalize rankL ss = row at *
     refine goM ?_
     refine l_callG c2 ?_
     refine goM ?_
     refine l_callG c3 ?_
     refine goM ?_
     refine l_callG c4 ?_
     clear c2 c3 c4
     refine goM ?_
     refine wq_loop (fun k ρ hp => ∃ j : Nat, n - c ≤ j ∧ j ≤ n ∧ k = n - j ∧ hp = H1 ∧ (∀ (t e : Nat), n - c ≤ t → t < j → row[t]? = some e → (e : Int) ≠ m) ∧ ρ 1 = .int .i64 m ∧ ρ 2 = .int .i64 (c : Int) ∧ ρ 3 = .int .i64 (y : Int) ∧ ρ 11 = u ∧ ρ 13 = .int .i64 (j : Int)) ⟨n - c, Nat.le_refl _, Nat.sub_le _ _, rfl, rfl, fun t e h1 h2 => absurd h1 (by omega), rfl, rfl, rfl, rfl, rfl⟩ ?_
     rintro _ ρ hp ⟨j, hj1, hj, rfl, hpe, hno, g1, g2, g3, g11, g13⟩
     subst hpe
     refine goM ?_
     refine cond_go (fun hb => ?_) (fun hb => ?_)
     ·have hj' : j < n := by simpa using hb
      clear hb
      obtain ⟨e, he⟩ : ∃ e, row[j]? = some e := ⟨row[j]'(by omega), by simp⟩
      obtain ⟨b2, o2, _, hi2, rfl, _, hlo2, _⟩ := hsl.get T27 rfl T3 rfl he
      have ho2 := loadV_one T3 rfl hlo2
      have hwj := wrap_succ (n := j) (by omega)
      clear hlo2
      cases hem : ((e : Int) == m) with
      | true =>
       have hin : decide (m ∈ lastOnes ss (c : Int)) = true := decide_eq_true (hmem.2 ⟨j, e, hj1, he, by simpa using hem⟩)
       rw [hin]
       clear hmem hno hin
       simp only [if_true]
       repeat (first | (refine l_pl ?_; refine l_step (s_bin eLk eLk hw3) ?_) | (refine l_pl ?_; refine l_goM ?_) | (refine d_pl ?_; refine d_goM ?_) | (refine l_gd ?_; first | refine l_onG ?_ | refine l_offG ?_ | refine l_offU ?_) | (refine d_gd ?_; first | refine d_onG ?_ | refine d_offG ?_ | refine d_offU ?_) | (refine cond_pl ?_; first | refine cond_yes ?_ | refine cond_no ?_) | refine wq_seq ?_ | refine wq_line ?_ | refine wq_draw (by decide +kernel) ?_ | refine wq_block ?_ | refine l_nil ?_ | refine d_nil ?_ | refine wq_skip ?_ | refine wq_ret ?_ | refine wq_exit ?_ | refine th_normal ?_ | refine th_ret ?_ | refine th_exit ?_ | refine bk_normal ?_ | refine bk_ret ?_ | refine bk_exit ?_ | refine bk_other rfl ?_)
       exact end_3 (by first | exact .inl rfl | exact .inr rfl) ⟨rfl, hpre⟩
      | false =>
       have hno' : ∀ (t e : Nat), n - c ≤ t → t < j + 1 → row[t]? = some e → (e : Int) ≠ m := fun t e' h1 h2 h3 => by
        by_cases ht : t = j
        ·subst ht; rw [he] at h3; cases h3; simpa using hem
        ·exact hno t e' h1 (by omega) h3
       clear hno hmem
       refine goM ?_
       exact ⟨n - (j + 1), by omega, j + 1, by omega, hj', rfl, rfl, hno', by simp [put_app, put_none, *]⟩
     ·have hj' : j = n := by have : ¬ j < n := by simpa using hb
                             omega
      subst hj'
      clear hb
      have hin : decide (m ∈ lastOnes ss (c : Int)) = false := decide_eq_false fun h => by
       obtain ⟨t, e, h1, h2, h3⟩ := hmem.1 h
       exact hno t e h1 (by have := (List.getElem?_eq_some_iff.1 h2).1; omega) h2 h3
      rw [hin]
      clear hno hmem hin
      simp only [Bool.false_eq_true, if_false]
      refine goM ?_
      exact end_3 (by first | exact .inl rfl | exact .inr rfl) ⟨rfl, hpre⟩
theorem refFinish_ {B H : Heap} {L : List Res} {u mv ev sv : V} {rvs : List (V × Int)} {ys : List MR} {s : St} {p : Nat} {o : Chk × Int} (pk : Picks s p o) (hM : Mem B H (spR u mv ev sv rvs ys s.c (es2 s p) s.st L)) (hq : Celled u mv ev sv) (hv : ys.map MR.val = s.ms.set p (chk2 s p, (msAt s.ms p).2)) :
  ∃ w H', Call Tryz.prog 107 [.agg (stC s.c u mv ev sv), .int .i64 p] H w H' ∧ ∃ sv', w = .agg (stC s.c u mv ev sv') ∧ ∃ ys', ys'.map MR.val = (doS s p).ms ∧ Mem B H' (spR u mv ev sv' rvs ys' s.c (es2 s p) (st2 s p) L) := by
 have hp := (List.getElem?_eq_some_iff.1 pk.at_).1
 obtain ⟨y, hy, hyv⟩ := val_at hv (List.getElem?_set_self hp)
 have hyk : y.k = chk2 s p := congrArg Prod.fst hyv
 have hyh : y.h = (msAt s.ms p).2 := congrArg Prod.snd hyv
 have hst := pk.ok.st.len
 obtain ⟨w, H', hc, sv', hw, hM'⟩ := refStored_ hM hq hy (by rw [hyk]; exact chk2_fits pk.ok pk.at_ pk.t) (by omega)
 rw [hyk, hyh] at hM'
 refine ⟨w, H', hc, sv', hw, _, ?_, hM'⟩
 rw [List.map_set, hv, List.set_set]
 show s.ms.set p (y.k, (put2 s.st (textK y.k)).2.1) = s.ms.set p (chk2 s p, head2 s p)
 rw [hyk]; rfl
theorem refDo_ (H : Heap) (s : St) (rv mv ev sv : V) (xs : List MR) (ha : StAt H rv mv ev sv xs s) (hf : s.Fit) (pick : Int) :
  ∃ w H', Call Tryz.prog 35 [.agg (stC s.c rv mv ev sv), .int .i64 pick] H w H' ∧ AnsS H (doR s pick) w H' := by
 obtain ⟨z1, z2, z3, z4⟩ := ha.celled
 have hle := ha.es.len T30 rfl
 have hlm := ha.ms.len T29 rfl
 rw [ha.len] at hlm
 have hel := hf.es
 refine call_mem fit mixed Tryz.func35 rfl rfl rfl (by kernel_rfl) fun hM => ?_
 refine wq_seq (wq_line ?_)
 refine l_boxM T33 fun b1 H1 hM => ?_
 refine l_newM (cs := zeroSt) T33 rfl fun b2 H2 hM => ?_
 have c1 := refStateMay_ H2 s rv mv ev sv xs (ha.mono hM.pre) hf
 have we : IntKind.i64.wrap ((s.es.length : Int) + 4) = (s.es.length : Int) + 4 := wrap_i64 (by omega) (by omega)
 have bad : ∀ {H3 L}, Mem H H3 L → ∀ e, doR s pick = (noSt, e) → AnsS H (doR s pick) (.tup [.agg zeroSt, .int .i64 e]) H3 := fun {H3 L} hM e he => by
  rw [he]
  exact ⟨⟨.nils, .nils, .nils, .nils, [], []⟩, rfl, no_ok, (no_own H3).low' hM.pre⟩
 have hdoc := doOk_doc s pick
 by_cases hok : doOk s pick = true
 ·obtain ⟨hst, hroom, p, o, rfl, ho⟩ := doOk_split hok
  have hp := (List.getElem?_eq_some_iff.1 ho).1
  rw [of_stOk hst] at c1
  have g1 : decide ((p : Int) < 0) = false := decide_eq_false (by omega)
  have g2 : decide ((p : Int) ≥ (s.ms.length : Int)) = false := decide_eq_false (by omega)
  have he : decide ((s.es.length : Int) + 4 > 1024) = false := decide_eq_false (by omega)
  have hc := hst.c
  obtain ⟨⟨hm2, hm8⟩, _, ⟨hs0, hs1⟩, ⟨hT1, hT2⟩, hI1, hI2⟩ := cfgMay_split hc
  have hpm : (p : Int) < s.c.m := by have := hst.len; omega
  have hof := hst.fits o (List.mem_of_getElem? ho)
  have htot := hst.tot o (List.mem_of_getElem? ho)
  refine goM ?_
  refine l_callG c1 ?_
  refine goM ?_
  refine l_newM (cs := zeroCfg) T26 rfl fun b6 H3 hM => ?_
  refine l_putM T26 fun H4 hM => ?_
  refine goM ?_
  obtain ⟨_, H5, c2, u, mv1, ev1, sv1, rvs, ys, rfl, hlk, hval, m1⟩ := copyState22_ H4 s rv mv ev sv xs (ha.mono hM.pre) hf
  refine l_callG c2 ?_
  have hat := st_at (L := []) (by simpa using m1) hlk hval
  obtain ⟨q1, q2, q3, q4⟩ := hat.celled
  obtain ⟨y, hy, hyv⟩ := val_at hval ho
  obtain ⟨cb, co, hi, _⟩ := mr_at hat.ms hy
  replace hM : Mem H H5 (stOwn u mv1 ev1 sv1 rvs ys s ++ _) := hM.call m1
  clear c1 c2 m1 hat
  unfold stOwn at hM
  simp only [List.cons_append, List.nil_append] at hM
  refine goM ?_
  refine l_newM (cs := zeroSt) T33 rfl fun b7 H6 hM => ?_
  refine l_putM T33 fun H7 hM => ?_
  obtain ⟨l0, _, _, _⟩ := mr_in (hM.sl (v := mv1) (xs := ys) (by (repeat (first | exact Has.here | apply Has.there)))) hi hy
  have hka := mems_at (hM.fact (F := pack (mems ys)) (by (repeat (first | exact Has.here | apply Has.there)))) y (List.mem_of_getElem? hy)
  have hyk : y.k = o.1 := congrArg Prod.fst hyv
  have hyh : y.h = o.2 := congrArg Prod.snd hyv
  have hms : (msAt s.ms p).2 = o.2 := by rw [msAt_some ho]
  have hml : p < ys.length := (List.getElem?_eq_some_iff.1 hy).1
  obtain ⟨yw, yv, yk, yh⟩ := y
  simp only at hyk hyh l0 hka
  subst hyk
  subst hyh
  have t1 := hka.ws.cells
  have t2 := hka.vs.cells
  obtain ⟨a, b, H8, c4, m2⟩ := refTrain_ H7 s.c rv yw yv p o.1 (ha.rows.mono hM.pre) hka hf.c (kFits_fit hof)
  have t3 := (m2.sl .here).cells
  have t4 := (m2.sl (.there .here)).cells
  by_cases ht : o.1.t = s.c.total
  ·have hr := is_done hst ho ht hroom
   rw [trainR_done hc (by omega) hof (by omega)] at c4 m2
   simp only at c4 m2
   have hend := fun {H3 L} h3 => bad (H3 := H3) (L := L) h3 2301 hr
   clear bad hok hst ha ho hr hdoc
   refine goM ?_
   refine d_callG c4 (.inl m2.pre) ?_
   replace hM := hM.call2 m2
   clear c4 m2 l0 hka
   refine goM ?_
   refine d_newM (cs := zeroChk) T45 rfl fun b8 H9 hM => ?_
   refine d_putM T45 fun H10 hM => ?_
   refine goM ?_
   refine l_putM T33 fun H11 hM => ?_
   refine goM ?_
   exact end_2 (by first | exact .inl rfl | exact .inr rfl) (hend hM)
  ·have pk : Picks s p o := ⟨hst, ho, ht, hroom⟩
   have hi0 : (s.c.interval = 0) = False := eq_false (by omega)
   have hgo : trainR s.c p o.1 = (doTrain s p, 0) := by rw [doTrain_eq ho]; exact trainR_go hc (by omega) hof (by omega)
   rw [hgo] at c4 m2
   simp only at c4 m2
   obtain ⟨tr1, tr2, tr3, tr4, _⟩ := trained hst ho ht
   obtain ⟨hk, w1, w2, w3, w4⟩ := at_le (p := p) (t := (doTrain s p).t) (by omega) (by omega)
   clear tr1 tr2 tr3 tr4 hdoc bad hok
   refine goM ?_
   refine d_callG c4 (.inl m2.pre) ?_
   replace hM := hM.call2 m2
   clear c4 m2 l0 hka
   refine goM ?_
   refine d_newM (cs := zeroChk) T45 rfl fun b8 H9 hM => ?_
   refine d_putM T45 fun H10 hM => ?_
   obtain ⟨H11, st7, hM7⟩ := mr_put hM (u := mv1) (ys := ys) (by (repeat (first | exact Has.here | apply Has.there))) hy hi 0 T45 (by decide) (w := .agg (kC a b (doTrain s p))) (y' := ⟨a, b, doTrain s p, o.2⟩) rfl rfl rfl
   rw [Nat.add_zero] at st7
   refine goM ?_
   refine l_stM st7 ?_
   clear st7 hM
   have h6 := ((hM7.front (r := .ro (pack (mems ys))) (by (repeat (first | exact Take.here | apply Take.there)))).front (r := .own 1 intC b (doTrain s p).vs) (by (repeat (first | exact Take.here | apply Take.there)))).front (r := .own 1 intC a (doTrain s p).ws) (by (repeat (first | exact Take.here | apply Take.there)))
   have hM := h6.newMr (y := ⟨a, b, doTrain s p, o.2⟩) hml
   clear h6 hM7
   have hv1 : (ys.set p ⟨a, b, doTrain s p, o.2⟩).map MR.val = ms1 s p := by
    rw [List.map_set, hval]; unfold ms1; rw [hms]; rfl
   have hy1 : (ys.set p ⟨a, b, doTrain s p, o.2⟩)[p]? = some ⟨a, b, doTrain s p, o.2⟩ := List.getElem?_set_self hml
   replace hml : p < (ys.set p ⟨a, b, doTrain s p, o.2⟩).length := by rw [List.length_set]; exact hml
   generalize ys.set p ⟨a, b, doTrain s p, o.2⟩ = ys1 at *
   refine goM ?_
   refine l_sliceM evC [⟨0, p, 0, 0, 0, 0⟩] (evV ⟨0, p, 0, 0, 0, 0⟩) T30 rfl T61 rfl (cells_ev _) (by decide) fun e1 H12 hM => ?_
   refine goM ?_
   refine l_appM (hM.sl .here) (xs := s.es) (hh := by (repeat (first | exact Has.here | apply Has.there))) (hb := by simp only [List.length_cons, List.length_nil]; show (s.es.length + 1) * 48 ≤ _ ∧ s.es.length + 1 ≤ _; omega) fun ev2 H13 hM => ?_
   have g3 := (hM.sl (v := ev2) (xs := s.es ++ [⟨0, p, 0, 0, 0, 0⟩]) (by (repeat (first | exact Has.here | apply Has.there)))).cells
   refine goM ?_
   refine l_putM T30 fun H14 hM => ?_
   have h1 := ((hM.front (r := .ro (pack (rowsR u rvs s.c.rows))) (by (repeat (first | exact Take.here | apply Take.there)))).front (r := .ro (pack (mems ys1))) (by (repeat (first | exact Take.here | apply Take.there)))).front (r := .own 3 entC sv1 s.st) (by (repeat (first | exact Take.here | apply Take.there)))
   have h2 := (h1.front (r := .own 6 evC ev2 (s.es ++ [⟨0, p, 0, 0, 0, 0⟩])) (by (repeat (first | exact Take.here | apply Take.there)))).front (r := .own 6 mrC mv1 ys1) (by (repeat (first | exact Take.here | apply Take.there)))
   replace hM : Mem H H14 (spR u mv1 ev2 sv1 rvs ys1 s.c (es1 s p) s.st [.box b8 (kC a b (doTrain s p)), .box b7 (stC s.c u mv1 ev2 sv1), .box b6 (cfgC s.c rv), .box b2 zeroSt]) := h2.sub (by (repeat (first | exact List.Sublist.slnil | exact List.Sublist.refl _ | refine List.Sublist.cons_cons _ ?_ | refine List.Sublist.cons _ ?_)))
   clear h1 h2
   have hdone : ∀ {H9 : Heap} {sv3 ev3 : V} {ys3 : List MR} {L : List Res}, ys3.map MR.val = (doS s p).ms → Mem H H9 (spR u mv1 ev3 sv3 rvs ys3 s.c (es2 s p) (st2 s p) L) → AnsS H (doR s (p : Int)) (.tup [.agg (stC s.c u mv1 ev3 sv3), .int .i64 0]) H9 := fun {H9 sv3 ev3 ys3 L} hv3 hM => by
    rw [doR_of pk]
    have h1 := ((hM.front (r := .own 3 entC sv3 (st2 s p)) (by (repeat (first | exact Take.here | apply Take.there)))).front (r := .own 6 evC ev3 (es2 s p)) (by (repeat (first | exact Take.here | apply Take.there)))).front (r := .own 6 mrC mv1 ys3) (by (repeat (first | exact Take.here | apply Take.there)))
    have h2 := (h1.front (r := .ro (pack (mems ys3))) (by (repeat (first | exact Take.here | apply Take.there)))).front (r := .ro (pack (rowsR u rvs s.c.rows))) (by (repeat (first | exact Take.here | apply Take.there)))
    exact ⟨⟨u, mv1, ev3, sv3, rvs, ys3⟩, rfl, ⟨hlk, hv3⟩, Mem.svN (s := doS s p) (h2.sub (by unfold stOwn; (repeat (first | exact List.Sublist.slnil | exact List.Sublist.refl _ | refine List.Sublist.cons_cons _ ?_ | refine List.Sublist.cons _ ?_)) <;> exact List.nil_sublist _))⟩
   by_cases hrem : (doTrain s p).t.tmod s.c.interval = 0
   ·have hqr : ((doTrain s p).t.tmod s.c.interval == 0) = true := by rw [hrem]; rfl
    have hsn : ((s.c.seed.toNat : Nat) : Int) = s.c.seed := Int.toNat_of_nonneg hs0
    have hc1 : Call Tryz.prog 101 [.int .i64 s.c.seed, .int .i64 ((atN p (doTrain s p).t : Nat) : Int)] H14 (.tup [.int .i64 (drawN s.c.seed.toNat (atN p (doTrain s p).t) : Nat), .int .i64 0]) H14 := by
     have := refDraw_ H14 s.c.seed.toNat (atN p (doTrain s p).t) (by omega) (by omega)
     rw [hsn] at this
     exact this
    have hat : StAt H14 u mv1 ev2 sv1 ys1 (s1_ s p) := ⟨rows_pack (hM.fact (F := pack (rowsR u rvs s.c.rows)) (by (repeat (first | exact Has.here | apply Has.there)))) hlk, hM.sl (v := mv1) (xs := ys1) (by (repeat (first | exact Has.here | apply Has.there))), hv1, mems_at (hM.fact (F := pack (mems ys1)) (by (repeat (first | exact Has.here | apply Has.there)))), hM.sl (v := ev2) (xs := es1 s p) (by (repeat (first | exact Has.here | apply Has.there))), hM.sl (v := sv1) (xs := s.st) (by (repeat (first | exact Has.here | apply Has.there)))⟩
    obtain ⟨sc, H15, hc2, m1⟩ := refScores1_ H14 (s1_ s p) u mv1 ev2 sv1 ys1 hat (s1_fit pk hf)
    have hsl : (scoreL (s1_ s p)).length ≤ 2 ^ 47 := by
     unfold scoreL s1_ ms1
     rw [List.length_map, List.length_set]
     have := hf.ms
     omega
    have hc3 := refDonor_ H15 sc (scoreL (s1_ s p)) p s.c.cutn (drawN s.c.seed.toNat (atN p (doTrain s p).t)) (m1.sl .here) hsl
    have hdd : donorR (scoreL (s1_ s p)) (p : Int) s.c.cutn (drawN s.c.seed.toNat (atN p (doTrain s p).t) : Nat) = donor1 s p := rfl
    rw [hdd] at hc3
    have hc2' : Call Tryz.prog 103 [.agg (stC s.c u mv1 ev2 sv1)] H14 sc H15 := hc2
    have sc1 := (m1.sl .here).cells
    clear hdd hsl hat hc2 hsn
    cases hd : (donor1 s p).2.1 with
    | false =>
     have htk : takes s p = false := by unfold takes; rw [hd, Bool.and_false]
     have e1 : chk2 s p = doTrain s p := by unfold chk2; rw [htk, if_neg (by decide)]
     have e2 : es2 s p = es1 s p := by unfold es2; rw [htk, if_neg (by decide)]
     rw [hd] at hc3
     have hM2 := hM.call1 m1
     have h3 : Mem H H15 (spR u mv1 ev2 sv1 rvs ys1 s.c (es2 s p) s.st [.box b7 (stC s.c u mv1 ev2 sv1), .box b2 zeroSt]) := by rw [e2]; exact hM2.sub (by (repeat (first | exact List.Sublist.slnil | exact List.Sublist.refl _ | refine List.Sublist.cons_cons _ ?_ | refine List.Sublist.cons _ ?_)))
     obtain ⟨_, H16, c7, sv3, rfl, ys3, hv3, hM3⟩ := refFinish_ pk h3 ⟨q1, q2, g3, q4⟩ (by rw [e1]; exact hv1)
     have g4 := (hM3.sl (v := sv3) (xs := st2 s p) (by (repeat (first | exact Has.here | apply Has.there)))).cells
     generalize atN p (doTrain s p).t = kk at *
     generalize drawN s.c.seed.toNat kk = dd at *
     generalize (donor1 s p).1 = d1 at *
     generalize (donor1 s p).2.2 = d3 at *
     clear e1 e2 htk hd hrem hgo hy hy1
     refine goM ?_
     refine l_callG hc1 ?_
     refine goM ?_
     refine d_callG hc2' (.inl m1.pre) ?_
     clear hM
     have hM := hM2
     clear hM2
     refine goM ?_
     refine d_callG hc3 (.inl (List.prefix_refl _)) ?_
     refine goM ?_
     refine l_callG c7 ?_
     clear hM
     have hM := hM3
     clear hM3
     refine goM ?_
     refine l_putM T33 fun H17 hM => ?_
     refine goM ?_
     exact end_2 (by first | exact .inl rfl | exact .inr rfl) (hdone hv3 hM)
    | true =>
     have htk : takes s p = true := by unfold takes; rw [hd, decide_eq_true hrem]; rfl
     obtain ⟨d, hdn, hds, hdp, hdm⟩ := donor_at hp htk
     have hdm1 : (ms1 s p)[d]? = some (msAt (ms1 s p) d) := by rw [ms1_at hp, if_neg hdp]; exact hdm
     obtain ⟨z, hz, hzv⟩ := val_at hv1 hdm1
     have hzk : z.k = dChk s p := by unfold dChk; rw [hdn, Int.toNat_natCast]; exact congrArg Prod.fst hzv
     have hzf : kFits s.c z.k = true := by rw [show z.k = (msAt (ms1 s p) d).1 from congrArg Prod.fst hzv]; exact ms1_fits hst ho ht (List.mem_of_getElem? hdm1)
     have hzc : Chk.Fit z.k := kFits_fit hzf
     have hzy : hyperMay z.k.r z.k.m = true := by
      unfold kFits memFits at hzf
      rw [Bool.and_eq_true] at hzf
      exact (chkMay_split hzf.1).2.2.2.2.1
     have e2 : es2 s p = (es1 s p ++ [⟨1, p, d, (manyOf (es1 s p) d : Nat), 0, 0⟩]) ++ [⟨2, p, 0, 0, (hyp2 s p).1, (hyp2 s p).2⟩] := by
      unfold es2; rw [htk, if_pos rfl, hdn, List.append_assoc]; rfl
     have e1 : chk2 s p = ⟨z.k.ws, z.k.vs, (hyp2 s p).1, (hyp2 s p).2, (doTrain s p).t⟩ := by
      unfold chk2; rw [htk, if_pos rfl, hzk]
     have e3 : hyp2 s p = triedR s.c z.k.r z.k.m (atN p (doTrain s p).t) := by unfold hyp2; rw [hzk]
     rw [hd, hdn] at hc3
     have hel1 : (es1 s p).length ≤ 1024 := by unfold es1; rw [List.length_append, List.length_singleton]; omega
     generalize hkk : atN p (doTrain s p).t = kk at *
     generalize drawN s.c.seed.toNat kk = dd at *
     generalize (donor1 s p).2.2 = d3 at *
     generalize hes : es1 s p = es at *
     have hc5 := fun h => refTried_ h s.c rv z.k.r z.k.m kk z1 hc hzy (by omega)
     rw [← e3] at hc5
     generalize hyp2 s p = hy2 at *
     obtain ⟨ra, mo⟩ := hy2
     simp only at hc5 e1 e2
     have hka := mems_at (hM.fact (F := pack (mems ys1)) (by (repeat (first | exact Has.here | apply Has.there)))) z (List.mem_of_getElem? hz)
     obtain ⟨bz, oz, hiz, _, lz, _⟩ := mr_at ((hM.call1 m1).sl (v := mv1) (xs := ys1) (by (repeat (first | exact Has.here | apply Has.there)))) hz
     obtain ⟨zw, zv, zk, zh⟩ := z
     simp only at hka hzf hzc hzy lz e1 hc5
     have t5 := hka.ws.cells
     have t6 := hka.vs.cells
     obtain ⟨_, H16, hc4, a2, b2', rfl, m2⟩ := copyCheck22_ H15 zw zv zk (hka.mono m1.pre) hzc
     have s3 := (m2.sl .here).cells
     have s4 := (m2.sl (.there .here)).cells
     clear e3 hdm hdm1 hd hdn hzk hzf hzy hgo hrem hy hes
     refine goM ?_
     refine l_callG hc1 ?_
     refine goM ?_
     refine d_callG hc2' (.inl m1.pre) ?_
     replace hM := hM.call1 m1
     refine goM ?_
     refine d_callG hc3 (.inl (List.prefix_refl _)) ?_
     refine goM ?_
     refine l_callG hc4 ?_
     replace hM := hM.call2 m2
     clear hc1 hc2' hc3 hc4 m1 m2 lz hka
     refine goM ?_
     refine l_newM (cs := zeroChk) T45 rfl fun b16 H17 hM => ?_
     refine l_putM T45 fun H18 hM => ?_
     refine goM ?_
     refine l_putM T3 fun H19 hM => ?_
     refine goM ?_
     refine l_callG (hc5 _) ?_
     refine goM ?_
     refine l_putM T43 fun H20 hM => ?_
     refine goM ?_
     have hcm := manyRef H20 ev2 es (d : Int) (hM.sl (v := ev2) (xs := es) (by (repeat (first | exact Has.here | apply Has.there)))) (by omega)
     refine d_call0G hcm ?_
     clear hcm
     refine goM ?_
     refine d_sliceM evC [⟨1, p, d, (manyOf es d : Nat), 0, 0⟩] (evV ⟨1, p, d, (manyOf es d : Nat), 0, 0⟩) T30 rfl T61 rfl (cells_ev _) (by decide) fun e5 H21 hM => ?_
     refine goM ?_
     refine d_appM (hM.sl .here) (xs := es) (hh := by (repeat (first | exact Has.here | apply Has.there))) (hb := by simp only [List.length_cons, List.length_nil]; show (es.length + 1) * 48 ≤ _ ∧ es.length + 1 ≤ _; omega) fun ev3 H22 hM => ?_
     have g5 := (hM.sl (v := ev3) (xs := es ++ [⟨1, p, d, (manyOf es d : Nat), 0, 0⟩]) (by (repeat (first | exact Has.here | apply Has.there)))).cells
     refine goM ?_
     refine d_putM T30 fun H23 hM => ?_
     refine goM ?_
     refine l_sliceM evC [⟨2, p, 0, 0, ra, mo⟩] (evV ⟨2, p, 0, 0, ra, mo⟩) T30 rfl T61 rfl (cells_ev _) (by decide) fun e6 H24 hM => ?_
     refine goM ?_
     refine l_appM (hM.sl .here) (xs := es ++ [⟨1, p, d, (manyOf es d : Nat), 0, 0⟩]) (hh := by (repeat (first | exact Has.here | apply Has.there))) (hb := by simp only [List.length_append, List.length_cons, List.length_nil]; show (es.length + 1 + 1) * 48 ≤ _ ∧ es.length + 1 + 1 ≤ _; omega) fun ev4 H25 hM => ?_
     have g6 := (hM.sl (v := ev4) (xs := (es ++ [⟨1, p, d, (manyOf es d : Nat), 0, 0⟩]) ++ [⟨2, p, 0, 0, ra, mo⟩]) (by (repeat (first | exact Has.here | apply Has.there)))).cells
     refine goM ?_
     refine l_putM T30 fun H26 hM => ?_
     obtain ⟨H27, st8, hM8⟩ := mr_put hM (u := mv1) (ys := ys1) (by (repeat (first | exact Has.here | apply Has.there))) hy1 hi 0 T45 (by decide) (w := .agg (kC a2 b2' ⟨zk.ws, zk.vs, ra, mo, (doTrain s p).t⟩)) (y' := ⟨a2, b2', ⟨zk.ws, zk.vs, ra, mo, (doTrain s p).t⟩, o.2⟩) rfl rfl rfl
     rw [Nat.add_zero] at st8
     refine goM ?_
     refine l_stM st8 ?_
     clear st8 hM
     have h6 := ((hM8.front (r := .ro (pack (mems ys1))) (by (repeat (first | exact Take.here | apply Take.there)))).front (r := .own 1 intC b2' zk.vs) (by (repeat (first | exact Take.here | apply Take.there)))).front (r := .own 1 intC a2 zk.ws) (by (repeat (first | exact Take.here | apply Take.there)))
     have h7 := h6.newMr (y := ⟨a2, b2', ⟨zk.ws, zk.vs, ra, mo, (doTrain s p).t⟩, o.2⟩) hml
     have h8 := ((h7.front (r := .ro (pack (rowsR u rvs s.c.rows))) (by (repeat (first | exact Take.here | apply Take.there)))).front (r := .ro (pack (mems (ys1.set p ⟨a2, b2', ⟨zk.ws, zk.vs, ra, mo, (doTrain s p).t⟩, o.2⟩)))) (by (repeat (first | exact Take.here | apply Take.there)))).front (r := .own 3 entC sv1 s.st) (by (repeat (first | exact Take.here | apply Take.there)))
     have h9 := (h8.front (r := .own 6 evC ev4 ((es ++ [⟨1, p, d, (manyOf es d : Nat), 0, 0⟩]) ++ [⟨2, p, 0, 0, ra, mo⟩])) (by (repeat (first | exact Take.here | apply Take.there)))).front (r := .own 6 mrC mv1 (ys1.set p ⟨a2, b2', ⟨zk.ws, zk.vs, ra, mo, (doTrain s p).t⟩, o.2⟩)) (by (repeat (first | exact Take.here | apply Take.there)))
     have hM : Mem H H27 (spR u mv1 ev4 sv1 rvs (ys1.set p ⟨a2, b2', ⟨zk.ws, zk.vs, ra, mo, (doTrain s p).t⟩, o.2⟩) s.c (es2 s p) s.st [.box b7 (stC s.c u mv1 ev4 sv1), .box b2 zeroSt]) := by rw [e2]; exact h9.sub (by (repeat (first | exact List.Sublist.slnil | exact List.Sublist.refl _ | refine List.Sublist.cons_cons _ ?_ | refine List.Sublist.cons _ ?_)))
     clear h6 h7 h8 h9 hM8
     obtain ⟨_, H28, c7, sv3, rfl, ys3, hv3, hM3⟩ := refFinish_ pk hM ⟨q1, q2, g6, q4⟩ (by
      rw [e1, List.map_set, hv1, ms1_set, hms]; rfl)
     have g4 := (hM3.sl (v := sv3) (xs := st2 s p) (by (repeat (first | exact Has.here | apply Has.there)))).cells
     clear e1 e2 hv1 hval hyv hlk hy1
     refine goM ?_
     refine l_callG c7 ?_
     clear hM c7
     have hM := hM3
     clear hM3
     refine goM ?_
     refine l_putM T33 fun H29 hM => ?_
     refine goM ?_
     exact end_2 (by first | exact .inl rfl | exact .inr rfl) (hdone hv3 hM)
   ·have hqr : ((doTrain s p).t.tmod s.c.interval == 0) = false := by simpa using hrem
    have htk : takes s p = false := by unfold takes; rw [decide_eq_false hrem, Bool.false_and]
    have e1 : chk2 s p = doTrain s p := by unfold chk2; rw [htk, if_neg (by decide)]
    have e2 : es2 s p = es1 s p := by unfold es2; rw [htk, if_neg (by decide)]
    obtain ⟨_, H16, c7, sv3, rfl, ys3, hv3, hM3⟩ := refFinish_ pk (by rw [e2]; exact hM) ⟨q1, q2, g3, q4⟩ (by rw [e1]; exact hv1)
    have g4 := (hM3.sl (v := sv3) (xs := st2 s p) (by (repeat (first | exact Has.here | apply Has.there)))).cells
    clear e1 e2 htk hrem hgo hy hy1
    refine goM ?_
    refine l_callG c7 ?_
    clear hM c7
    have hM := hM3
    clear hM3
    refine goM ?_
    refine l_putM T33 fun H17 hM => ?_
    refine goM ?_
    exact end_2 (by first | exact .inl rfl | exact .inr rfl) (hdone hv3 hM)
 ·have hr : doR s pick = (noSt, 2300) := by unfold doR; rw [if_neg hok]
  have hend := fun {H3 L} h3 => bad (H3 := H3) (L := L) h3 2300 hr
  have hok' : doOk s pick = false := by simpa using hok
  rw [hdoc] at hok'
  clear bad hr hok hdoc
  obtain ⟨q1, e1⟩ : ∃ q, stateMay s = q := ⟨_, rfl⟩
  obtain ⟨q2, e2⟩ : ∃ q, decide (pick < 0) = q := ⟨_, rfl⟩
  obtain ⟨q3, e3⟩ : ∃ q, decide (pick ≥ (s.ms.length : Int)) = q := ⟨_, rfl⟩
  obtain ⟨q4, e4⟩ : ∃ q, decide ((s.es.length : Int) + 4 > 1024) = q := ⟨_, rfl⟩
  rw [e1] at c1 hok'
  rw [e2, e3, e4] at hok'
  clear e1 ha
  cases q1 with
  | false =>
   clear hok' we
   refine goM ?_
   refine l_callG c1 ?_
   refine goM ?_
   refine l_putM T33 fun H3 hM => ?_
   refine goM ?_
   exact end_2 (by first | exact .inl rfl | exact .inr rfl) (hend hM)
  | true =>
   cases q2 with
   | true =>
    clear hok' we
    refine goM ?_
    refine l_callG c1 ?_
    refine goM ?_
    refine l_putM T33 fun H3 hM => ?_
    refine goM ?_
    exact end_2 (by first | exact .inl rfl | exact .inr rfl) (hend hM)
   | false =>
    cases q3 with
    | true =>
     clear hok' we
     refine goM ?_
     refine l_callG c1 ?_
     refine goM ?_
     refine l_putM T33 fun H3 hM => ?_
     refine goM ?_
     exact end_2 (by first | exact .inl rfl | exact .inr rfl) (hend hM)
    | false =>
     have e5 : q4 = true := by simpa using hok'
     subst e5
     clear hok'
     refine goM ?_
     refine l_callG c1 ?_
     refine goM ?_
     refine l_putM T33 fun H3 hM => ?_
     refine goM ?_
     exact end_2 (by first | exact .inl rfl | exact .inr rfl) (hend hM)
theorem doD_ {s a : St} {pick e : Int} (h : doR s pick = (a, e)) (H : Heap) {rv mv ev sv : V} {xs : List MR} (ha : StAt H rv mv ev sv xs s) (hf : s.Fit) :
  ∃ w H', Call Tryz.prog 35 [.agg (stC s.c rv mv ev sv), .int .i64 pick] H w H' ∧ ∃ q : SV, w = .tup [.agg (q.c a), .int .i64 e] ∧ q.Ok a ∧ Mem H H' [q.own a] := by
 have := refDo_ H s rv mv ev sv xs ha hf pick
 rw [h] at this
 exact this
theorem small23_ (H : Heap) : ∃ w H', Call Tryz.prog 39 [] H w H' ∧ ∃ rv xv, w = .agg (cfgC smallC rv) ∧ Mem H H' [.ro (rowsFact rv xv smallC.rows)] := by
 refine call_mem fit mixed Tryz.func39 rfl rfl rfl (by kernel_rfl) fun hM => ?_
 refine wq_seq (wq_line ?_)
 refine l_newM (cs := zeroCfg) T26 rfl fun b0 H1 hM => ?_
 refine goM ?_
 refine l_sliceM intC [65536] [.int .i64 65536] T27 rfl T3 rfl (cells_ints [65536]) (by decide) (fun x1 H2 hM => ?_)
 have t1 := (hM.sl .here).cells
 refine goM ?_
 refine l_sliceM intC [-65536] [.int .i64 (-65536)] T27 rfl T3 rfl (cells_ints [-65536]) (by decide) (fun x2 H3 hM => ?_)
 have t2 := (hM.sl .here).cells
 refine goM ?_
 refine l_sliceM rowC [(x1, 32768), (x2, 0)] [x1, .int .i64 32768, x2, .int .i64 0] T24 rfl T144 rfl (cells_rows [(x1, 32768), (x2, 0)]) (by decide) (fun rv H4 hM => ?_)
 have t3 := (hM.sl .here).cells
 refine goM ?_
 refine l_putM T26 fun H5 hM => ?_
 refine goM ?_
 refine end_1 (by first | exact .inl rfl | exact .inr rfl) ⟨rv, [(x1, 32768), (x2, 0)], rfl, Mem.mkro hM.pre ⟨hM.slG, rfl, fun k p r hp hr => ?_⟩ fun c hc => ?_⟩
 ·match k, hp, hr with
  | 0, hp, hr => cases hp; cases hr; exact ⟨hM.slG, rfl⟩
  | 1, hp, hr => cases hp; cases hr; exact ⟨hM.slG, rfl⟩
 ·rcases hc with hc | ⟨q, hq, hc⟩
  ·exact hM.low (.own 2 rowC rv [(x1, 32768), (x2, 0)]) (by simp) c hc
  ·simp at hq
   rcases hq with rfl | rfl
   ·exact hM.low (.own 1 intC x1 [65536]) (by simp) c hc
   ·exact hM.low (.own 1 intC x2 [-65536]) (by simp) c hc
def pickK (s : St) (p : Int) : Nat → St
 | 0 => s
 | k + 1 => (doR (pickK s p k) p).1
theorem pickK_three {p : Nat} (hp : p < 2) : (∀ k, k < 3 → doR (pickK (newS smallC) p k) p = (pickK (newS smallC) p (k + 1), 0)) ∧ doR (pickK (newS smallC) p 3) p = (noSt, 2301) ∧ ∀ k, k ≤ 3 → (pickK (newS smallC) p k).Fit := by
 obtain ⟨o, ho, ht⟩ := small_at p hp
 obtain ⟨h1, h2, h3, h4, _⟩ := thrice small_ok ho ht rfl (by show (0 : Nat) ≤ _; decide)
 have a1 : pickK (newS smallC) p 1 = doS (newS smallC) p := by
  show (doR (newS smallC) p).1 = _
  rw [h1]
 have a2 : pickK (newS smallC) p 2 = doS (doS (newS smallC) p) p := by
  show (doR (pickK (newS smallC) p 1) p).1 = _
  rw [a1, h2]
 have a3 : pickK (newS smallC) p 3 = doS (doS (doS (newS smallC) p) p) p := by
  show (doR (pickK (newS smallC) p 2) p).1 = _
  rw [a2, h3]
 have hnf : (newS smallC).Fit := by
  have := newR_fit small_fit
  unfold newR at this
  rw [if_pos small_may] at this
  exact this
 refine ⟨fun k hk => ?_, by rw [a3]; exact h4, fun k => ?_⟩
 ·match k, hk with
  | 0, _ => rw [a1]; exact h1
  | 1, _ => rw [a1, a2]; exact h2
  | 2, _ => rw [a2, a3]; exact h3
 ·induction k with
  | zero => intro _; exact hnf
  | succ k ih => intro hk; exact doR_fit (ih (by omega)) _
theorem small_out : doR (newS smallC) 2 = (noSt, 2300) := pick_out (.inr (by rw [small_new]; decide))
theorem awake23_ (K : Heap) : Call Tryz.prog 38 [] K (.bool true) K := by
 have hsm := small23_
 have hne : newR smallC = (newS smallC, 0) := by unfold newR; rw [if_pos small_may]
 obtain ⟨hN, hN3, hNf⟩ := pickK_three (p := 1) (by decide)
 obtain ⟨hA, hA3, hAf⟩ := pickK_three (p := 0) (by decide)
 have hA0 : doR (newS smallC) 0 = (pickK (newS smallC) ((0 : Nat) : Int) 1, 0) := hA 0 (by decide)
 have hAf1 := hAf 1 (by decide)
 have hB := small_out
 have hcf := small_fit
 clear hA hA3 hAf
 generalize pickK (newS smallC) ((0 : Nat) : Int) 1 = A at *
 have hz : pickK (newS smallC) ((1 : Nat) : Int) 0 = newS smallC := rfl
 rw [← hz] at hA0 hB hne
 clear hz
 generalize pickK (newS smallC) ((1 : Nat) : Int) = N at *
 generalize smallC = c at *
 refine call_pure fit mixed Tryz.func38 rfl rfl rfl (by kernel_rfl) rfl fun hM => ?_
 obtain ⟨_, H1, c1, rv, xv, rfl, m0⟩ := hsm K
 obtain ⟨_, H2, c2, q0, rfl, k0, m1⟩ := newQ_ hne H1 rv (rows_of (m0.fact .here)) hcf
 refine wq_seq (wq_line ?_)
 refine goM ?_
 refine l_callG c1 ?_
 replace hM := hM.grow m0.pre
 refine goM ?_
 refine l_callG c2 ?_
 replace hM := hM.call1 m1
 clear c1 c2 m0 m1 hsm
 refine goM ?_
 refine l_newM (cs := zeroSt) T33 rfl fun b1 H3 hM => ?_
 refine l_putM T33 fun H4 hM => ?_
 refine goM ?_
 obtain ⟨_, H5, c1, qa, rfl, ka, m1⟩ := doP_ hA0 H4 (k0.at_ hM) (hNf 0 (by decide))
 refine l_callG c1 ?_
 replace hM := hM.call1 m1
 clear c1 m1
 refine goM ?_
 refine l_newM (cs := zeroSt) T33 rfl fun b3 H6 hM => ?_
 refine l_putM T33 fun H7 hM => ?_
 refine goM ?_
 obtain ⟨_, H8, c1, qb, rfl, kb, m1⟩ := doD_ hA0 H7 (k0.at_ hM) (hNf 0 (by decide))
 refine l_callG c1 ?_
 replace hM := hM.call1 m1
 clear c1 m1
 refine goM ?_
 refine l_newM (cs := zeroSt) T33 rfl fun b5 H9 hM => ?_
 refine l_putM T33 fun H10 hM => ?_
 refine goM ?_
 obtain ⟨_, H11, c1, qc, rfl, kc, m1⟩ := doP_ hB H10 (k0.at_ hM) (hNf 0 (by decide))
 refine l_callG c1 ?_
 replace hM := hM.call1 m1
 clear c1 m1
 refine goM ?_
 refine l_newM (cs := zeroSt) T33 rfl fun b7 H12 hM => ?_
 refine l_putM T33 fun H13 hM => ?_
 refine goM ?_
 have hM0 : Mem K H13 [.box b1 (q0.c (N 0)), q0.own (N 0), .box b3 (qa.c A), qa.own A, .box b5 (qb.c A), qb.own A] := ((((((hM.front (r := qb.own A) (by (repeat (first | exact Take.here | apply Take.there)))).front (r := .box b5 (qb.c A)) (by (repeat (first | exact Take.here | apply Take.there)))).front (r := qa.own A) (by (repeat (first | exact Take.here | apply Take.there)))).front (r := .box b3 (qa.c A)) (by (repeat (first | exact Take.here | apply Take.there)))).front (r := q0.own (N 0)) (by (repeat (first | exact Take.here | apply Take.there)))).front (r := .box b1 (q0.c (N 0))) (by (repeat (first | exact Take.here | apply Take.there)))).sub (by (repeat (first | exact List.Sublist.slnil | exact List.Sublist.refl _ | refine List.Sublist.cons_cons _ ?_ | refine List.Sublist.cons _ ?_)))
 refine wq_loop (fun cc ρ h => ∃ (k : Nat) (q : SV), k ≤ 3 ∧ cc = 3 - k ∧ q.Ok (N k) ∧ Mem K h [.box b1 (q.c (N k)), q.own (N k), .box b3 (qa.c A), qa.own A, .box b5 (qb.c A), qb.own A] ∧ ρ 1 = .ptr b1 0 ∧ ρ 2 = .int .i64 0 ∧ ρ 3 = .ptr b3 0 ∧ ρ 4 = .int .i64 0 ∧ ρ 5 = .ptr b5 0 ∧ ρ 6 = .int .i64 0 ∧ ρ 8 = .int .i64 2300 ∧ ρ 9 = .int .i64 (k : Int)) ⟨0, q0, Nat.zero_le _, rfl, k0, hM0, by simp [put_app, put_none, rho0_app, *]⟩ ?_
 repeat clear hM
 clear hM0 k0
 rintro _ ρ h ⟨k, q, hk, rfl, hq, hM, g1, g2, g3, g4, g5, g6, g8, g9⟩
 by_cases hk3 : k < 3
 ·have d1 : decide ((k : Int) < 3) = true := decide_eq_true (by omega)
  have hw := wrap_succ (n := k) (by omega)
  obtain ⟨_, H14, c1, q2, rfl, k2, m1⟩ := doP_ (hN k hk3) h (hq.at_ hM) (hNf k hk)
  refine goM ?_
  refine l_callG c1 ?_
  replace hM := hM.call1 m1
  clear c1 m1
  refine goM ?_
  refine l_newM (cs := zeroSt) T33 rfl fun b10 H15 hM => ?_
  refine l_putM T33 fun H16 hM => ?_
  refine goM ?_
  refine l_callG (num_ _ _) ?_
  refine goM ?_
  refine l_putM T33 fun H17 hM => ?_
  refine goM ?_
  exact ⟨3 - (k + 1), by omega, k + 1, q2, hk3, rfl, k2, (((hM.front (r := q2.own (N (k + 1))) (by (repeat (first | exact Take.here | apply Take.there)))).front (r := .box b1 (q2.c (N (k + 1)))) (by (repeat (first | exact Take.here | apply Take.there))))).sub (by (repeat (first | exact List.Sublist.slnil | exact List.Sublist.refl _ | refine List.Sublist.cons_cons _ ?_ | refine List.Sublist.cons _ ?_))), by simp [put_app, put_none, *]⟩
 ·have hke : k = 3 := by omega
  subst hke
  clear hk3 hk
  have d1 : decide (((3 : Nat) : Int) < 3) = false := by decide
  obtain ⟨_, H14, c1, q2, rfl, k2, m1⟩ := doP_ hN3 h (hq.at_ hM) (hNf 3 (by decide))
  refine goM ?_
  refine l_callG c1 ?_
  replace hM := hM.call1 m1
  clear c1 m1
  refine goM ?_
  refine l_newM (cs := zeroSt) T33 rfl fun b12 H15 hM => ?_
  refine l_putM T33 fun H16 hM => ?_
  have c2 := sameP_ H16 A (ka.at_ hM) (kb.at_ hM) hAf1
  refine goM ?_
  refine l_callG c2 ?_
  refine goM ?_
  refine l_callG (num_ _ _) ?_
  refine goM ?_
  refine l_callG (num_ _ _) ?_
  refine goM ?_
  refine l_callG (num_ _ _) ?_
  refine goM ?_
  exact end_1 (by first | exact .inl rfl | exact .inr rfl) ⟨rfl, hM.pre⟩
theorem law_steps {D : Type} (K : Heap) (vs : List V) (ds : List (DataW D)) (ro : Ro K) (h : RdAll T K [33, 3] vs ds) : ∃ K', Call Tryz.prog 6 vs K (.bool true) K' := by
 obtain ⟨v1, vs, d1, ds, rfl, rfl, hv1, h⟩ := rdAll_cons h
 obtain ⟨v2, vs, d2, ds, rfl, rfl, hv2, h⟩ := rdAll_cons h
 obtain ⟨rfl, rfl⟩ := rdAll_nil h
 obtain ⟨s, rv, mv, ev, sv, xs, rfl, ha, sf⟩ := rd_state hv1
 obtain ⟨pick, rfl, _⟩ := hv2.int T3 rfl
 clear hv1 hv2 h
 have of := doR_fit sf pick
 obtain ⟨S, e, ho⟩ : ∃ S e, doR s pick = (S, e) := ⟨_, _, rfl⟩
 rw [ho] at of
 simp only at of
 refine ⟨K, ?_⟩
 refine call_pure fit mixed Tryz.func6 rfl rfl rfl (by kernel_rfl) rfl fun hM => ?_
 refine wq_seq (wq_line ?_)
 refine l_boxM T33 fun b1 H1 hM => ?_
 refine goM ?_
 obtain ⟨_, H2, c1, q0, rfl, k0, m1⟩ := copyP_ H1 s rv mv ev sv xs (ha.mono hM.pre) sf
 refine l_callG c1 ?_
 replace hM := hM.call1 m1
 clear c1 m1
 refine goM ?_
 refine l_newM (cs := zeroSt) T33 rfl fun b2 H3 hM => ?_
 refine l_putM T33 fun H4 hM => ?_
 refine goM ?_
 obtain ⟨_, H5, c1, qa, rfl, ka, m1⟩ := doP_ ho H4 (k0.at_ hM) sf
 refine l_callG c1 ?_
 replace hM := hM.call1 m1
 clear c1 m1
 refine goM ?_
 refine l_newM (cs := zeroSt) T33 rfl fun b3 H6 hM => ?_
 refine l_putM T33 fun H7 hM => ?_
 refine goM ?_
 obtain ⟨_, H8, c1, qb, rfl, kb, m1⟩ := doD_ ho H7 (ha.mono hM.pre) sf
 refine l_callG c1 ?_
 replace hM := hM.call1 m1
 clear c1 m1
 refine goM ?_
 refine l_newM (cs := zeroSt) T33 rfl fun b4 H9 hM => ?_
 refine l_putM T33 fun H10 hM => ?_
 have c1 := sameP_ H10 S (ka.at_ hM) (kb.at_ hM) of
 have hee : ((e : Int) != e) = false := by simp
 refine goM ?_
 refine l_callG c1 ?_
 refine goM ?_
 refine l_callG (num_ _ _) ?_
 refine goM ?_
 obtain ⟨_, H11, c2, rfl, hM2⟩ := spoilP_ hM ka of
 refine l_callG c2 ?_
 clear c1 c2 hM
 have hM := hM2
 clear hM2
 have c1 := sameP_ H11 s (k0.at_ hM) (ha.mono hM.pre) sf
 refine goM ?_
 refine l_callG c1 ?_
 refine goM ?_
 refine l_callG (awake23_ _) ?_
 refine goM ?_
 exact end_1 (by first | exact .inl rfl | exact .inr rfl) ⟨rfl, hM.pre⟩
theorem law_stepReady {D : Type} (K : Heap) (vs : List V) (ds : List (DataW D)) (ro : Ro K) (h : RdAll T K [33, 3] vs ds) : ∃ K', Call Tryz.prog 11 vs K (.bool true) K' := by
 obtain ⟨v1, vs, d1, ds, rfl, rfl, hv1, h⟩ := rdAll_cons h
 obtain ⟨v2, vs, d2, ds, rfl, rfl, hv2, h⟩ := rdAll_cons h
 obtain ⟨rfl, rfl⟩ := rdAll_nil h
 obtain ⟨s, rv, mv, ev, sv, xs, rfl, ha, sf⟩ := rd_state hv1
 obtain ⟨pick, rfl, _⟩ := hv2.int T3 rfl
 clear hv1 hv2 h
 have hle := ha.es.len T30 rfl
 have hel := sf.es
 refine ⟨K, ?_⟩
 refine call_pure fit mixed Tryz.func11 rfl rfl rfl (by kernel_rfl) rfl fun hM => ?_
 refine wq_seq (wq_line ?_)
 refine l_boxM T33 fun b1 H1 hM => ?_
 refine goM ?_
 refine l_callG (awake23_ _) ?_
 rcases doR_cases s pick with ⟨p, o, rfl, pk, ho⟩ | ⟨e, hne, ho⟩
 ·have hp := (List.getElem?_eq_some_iff.1 pk.at_).1
  have hlen := pk.ok.len
  have T1 := do_turned pk
  have of := do_fit pk sf
  obtain ⟨⟨hm2, hm8⟩, _, _, _, hI1, hI2⟩ := cfgMay_split pk.ok.c
  have hi0 : (s.c.interval = 0) = False := eq_false (by omega)
  have hmay : stateMay s = true := of_stOk pk.ok
  generalize doS s p = A at *
  obtain ⟨tm1, tm2⟩ := T1.more
  obtain ⟨x, hx, hxt⟩ := T1.own
  have tr := T1.ready x hx
  have tk := T1.kinds
  have hml := T1.len
  clear T1
  refine goM ?_
  obtain ⟨_, H2, c1, qa, rfl, ka, m1⟩ := doP_ ho H1 (ha.mono hM.pre) sf
  refine l_callG c1 ?_
  replace hM := hM.call1 m1
  clear c1 m1
  refine goM ?_
  refine l_newM (cs := zeroSt) T33 rfl fun b2 H3 hM => ?_
  refine l_putM T33 fun H4 hM => ?_
  have hat := ka.at_ hM
  have g1 := hat.es.len T30 rfl
  have g2 := hat.ms.len T29 rfl
  rw [hat.len, hml] at g2
  have g3 : decide ((A.es.length : Int) ≤ (s.es.length : Int)) = false := decide_eq_false (by omega)
  have g4 : decide ((p : Int) < 0) = false := decide_eq_false (by omega)
  have g5 : decide ((p : Int) ≥ (s.ms.length : Int)) = false := decide_eq_false (by omega)
  have c2 := refStateMay_ H4 s rv mv ev sv xs (ha.mono hM.pre) sf
  rw [hmay] at c2
  obtain ⟨y, hy, hyv⟩ := val_at hat.val hx
  have hyk : y.k = x.1 := congrArg Prod.fst hyv
  obtain ⟨bo, oo, hi, _⟩ := mr_at hat.ms hy
  obtain ⟨_, _, l4, _⟩ := mr_in hat.ms hi hy
  rw [hyk] at l4
  have hea := hat.es
  clear hlen hm2 hm8 hp hxt hmay hyk hyv hat hy hx hml
  generalize x.1.t = tt at *
  by_cases hr : tt.tmod s.c.interval = 0
  ·have hq : (tt.tmod s.c.interval != 0) = false := by rw [hr]; rfl
   rcases tk with h1 | ⟨h3, ⟨ea, hea1, hek1⟩, ⟨eb, heb1, hek2⟩⟩
   ·have w1 : IntKind.i64.wrap ((A.es.length : Int) - (s.es.length : Int)) = 1 := by rw [wrap_i64 (by omega) (by omega)]; omega
    clear h1 tr hr
    refine goM ?_
    refine l_callG (num_ _ _) ?_
    refine goM ?_
    refine l_callG c2 ?_
    refine goM ?_
    exact end_1 (by first | exact .inl rfl | exact .inr rfl) ⟨rfl, hM.pre⟩
   ·have w1 : IntKind.i64.wrap ((A.es.length : Int) - (s.es.length : Int)) = 3 := by rw [wrap_i64 (by omega) (by omega)]; omega
    have w2 : IntKind.i64.wrap ((A.es.length : Int) - 2) = ((s.es.length + 1 : Nat) : Int) := by rw [wrap_i64 (by omega) (by omega)]; omega
    have w3 : IntKind.i64.wrap ((A.es.length : Int) - 1) = ((s.es.length + 2 : Nat) : Int) := by rw [wrap_i64 (by omega) (by omega)]; omega
    obtain ⟨be, oe, _, ji, jc, _, _, jl⟩ := hea.get T30 rfl T61 rfl hea1
    have j0 : loadV T 3 H4 be oe = some (.int .i64 1) := loadV_one T3 rfl (jl 0 _ (by rw [jc, ← hek1]; rfl))
    obtain ⟨bf, of', _, ki, kc, _, _, kl⟩ := hea.get T30 rfl T61 rfl heb1
    have k0 : loadV T 3 H4 bf of' = some (.int .i64 2) := loadV_one T3 rfl (kl 0 _ (by rw [kc, ← hek2]; rfl))
    obtain ⟨_, H5, c3, rv9, xv9, rfl, m3⟩ := small23_ H4
    have hlr := (m3.fact (F := rowsFact rv9 xv9 smallC.rows) .here)
    have hlr2 : builtinP T .len [24] [rv9] = some (.int .i64 2) := by
     obtain ⟨rvx, hrx, hrl, _⟩ := rows_of hlr
     have := hrx.len T24 rfl
     rw [hrl] at this
     exact this
    clear h3 tr hr hlr jl kl jc kc hek1 hek2 hea1 heb1
    refine goM ?_
    refine l_callG (num_ _ _) ?_
    refine goM ?_
    refine l_callG c2 ?_
    refine goM ?_
    refine l_callG c3 ?_
    refine goM ?_
    exact end_1 (by first | exact .inl rfl | exact .inr rfl) ⟨rfl, hM.pre.trans m3.pre⟩
  ·have hq : (tt.tmod s.c.interval != 0) = true := by simpa using hr
   have w1 : IntKind.i64.wrap ((A.es.length : Int) - (s.es.length : Int)) = 1 := by
    have := tr hr
    rw [wrap_i64 (by omega) (by omega)]; omega
   clear hr tk tr
   refine goM ?_
   refine l_callG (num_ _ _) ?_
   refine goM ?_
   refine l_callG c2 ?_
   refine goM ?_
   exact end_1 (by first | exact .inl rfl | exact .inr rfl) ⟨rfl, hM.pre⟩
 ·have hee : (e != 0) = true := by simpa using hne
  refine goM ?_
  obtain ⟨_, H2, c1, qa, rfl, ka, m1⟩ := doP_ ho H1 (ha.mono hM.pre) sf
  refine l_callG c1 ?_
  replace hM := hM.call1 m1
  clear c1 m1
  refine goM ?_
  refine l_newM (cs := zeroSt) T33 rfl fun b2 H3 hM => ?_
  refine l_putM T33 fun H4 hM => ?_
  clear hne
  refine goM ?_
  refine l_callG (num_ _ _) ?_
  refine goM ?_
  refine l_callG (num_ _ _) ?_
  refine goM ?_
  exact end_1 (by first | exact .inl rfl | exact .inr rfl) ⟨rfl, hM.pre⟩
theorem law_stepOwn {D : Type} (K : Heap) (vs : List V) (ds : List (DataW D)) (ro : Ro K) (h : RdAll T K [33, 3] vs ds) : ∃ K', Call Tryz.prog 8 vs K (.bool true) K' := by
 obtain ⟨v1, vs, d1, ds, rfl, rfl, hv1, h⟩ := rdAll_cons h
 obtain ⟨v2, vs, d2, ds, rfl, rfl, hv2, h⟩ := rdAll_cons h
 obtain ⟨rfl, rfl⟩ := rdAll_nil h
 obtain ⟨s, rv, mv, ev, sv, xs, rfl, ha, sf⟩ := rd_state hv1
 obtain ⟨pick, rfl, _⟩ := hv2.int T3 rfl
 clear hv1 hv2 h
 have hle := ha.es.len T30 rfl
 have hel := sf.es
 refine ⟨K, ?_⟩
 refine call_pure fit mixed Tryz.func8 rfl rfl rfl (by kernel_rfl) rfl fun hM => ?_
 refine wq_seq (wq_line ?_)
 refine l_boxM T33 fun b1 H1 hM => ?_
 refine goM ?_
 refine l_callG (awake23_ _) ?_
 rcases doR_cases s pick with ⟨p, o, rfl, pk, ho⟩ | ⟨e, hne, ho⟩
 ·have hp := (List.getElem?_eq_some_iff.1 pk.at_).1
  have hlen := pk.ok.len
  have T1 := do_turned pk
  have of := do_fit pk sf
  have hpo := pk.at_
  obtain ⟨⟨hm2, hm8⟩, _⟩ := cfgMay_split pk.ok.c
  obtain ⟨n, hn⟩ : ∃ n, s.ms.length = n := ⟨_, rfl⟩
  have hspan := (span_k (pk.ok.fits o (List.mem_of_getElem? pk.at_)))
  generalize doS s p = A at *
  have tc := T1.c
  have tm := T1.may
  obtain ⟨tm1, tm2⟩ := T1.more
  obtain ⟨x, hx, hxt⟩ := T1.own
  have hml := T1.len
  have tr := T1.rest
  have te := T1.evs
  have ts := T1.same
  clear T1
  rw [hn] at hml
  refine goM ?_
  obtain ⟨_, H2, c1, qa, rfl, ka, m1⟩ := doP_ ho H1 (ha.mono hM.pre) sf
  refine l_callG c1 ?_
  replace hM := hM.call1 m1
  clear c1 m1
  refine goM ?_
  refine l_newM (cs := zeroSt) T33 rfl fun b2 H3 hM => ?_
  refine l_putM T33 fun H4 hM => ?_
  have hat := ka.at_ hM
  have g1 := hat.es.len T30 rfl
  have g2 := hat.ms.len T29 rfl
  rw [hat.len, hml] at g2
  have g6 := ha.ms.len T29 rfl
  rw [ha.len, hn] at g6
  have g3 : decide ((A.es.length : Int) ≤ (s.es.length : Int)) = false := decide_eq_false (by omega)
  have w3 : IntKind.i64.wrap ((s.es.length : Int) + 3) = (s.es.length : Int) + 3 := wrap_i64 (by omega) (by omega)
  have g4 : decide ((A.es.length : Int) > (s.es.length : Int) + 3) = false := decide_eq_false (by omega)
  have hnn : ((n : Int) != (n : Int)) = false := by simp
  have c2 := refStateMay_ H4 A _ _ _ _ _ hat of
  rw [tm] at c2
  have c3 : Call Tryz.prog 40 [.agg (cfgC A.c qa.u), .agg (cfgC s.c rv)] H4 (.bool true) H4 := by
   have h1 := hat.rows
   rw [tc] at h1 ⊢
   exact sameConfig_ H4 s.c qa.u rv h1 (ha.rows.mono hM.pre) (by have := sf.c.rows; omega) (fun r hr => by have := sf.c.row r hr; omega)
  have hM4 : Mem K H4 [.box b2 (qa.c A), qa.own A, .box b1 (stC s.c rv mv ev sv)] := hM.subG
  have hn8 : n ≤ 8 := by omega
  clear hlen hm2 hm8 hp tm hat
  refine goM ?_
  refine l_callG (num_ _ _) ?_
  refine goM ?_
  refine l_callG c2 ?_
  refine goM ?_
  refine l_callG c3 ?_
  clear c2 c3 g3 g4 w3
  refine goM ?_
  refine wq_loop (fun cc ρ h => ∃ (k : Nat), k ≤ n ∧ cc = n - k ∧ Mem K h [.box b2 (qa.c A), qa.own A, .box b1 (stC s.c rv mv ev sv)] ∧ ρ 1 = .int .i64 (p : Int) ∧ ρ 2 = .ptr b1 0 ∧ ρ 5 = .ptr b2 0 ∧ ρ 7 = .int .i64 (k : Int)) ⟨0, Nat.zero_le _, rfl, hM4, by simp [put_app, put_none, rho0_app, *]⟩ ?_
  repeat clear hM
  clear hM4
  rintro _ ρ h ⟨k, hk, rfl, hM, h1, h2, h5, h7⟩
  by_cases hk' : k < n
  ·have dk : decide ((k : Int) < (n : Int)) = true := decide_eq_true (by omega)
   have hw := wrap_succ (n := k) (by omega)
   have hat := ka.at_ hM
   have hat0 := ha.mono hM.pre
   obtain ⟨m0, hm0⟩ : ∃ m0, s.ms[k]? = some m0 := ⟨s.ms[k]'(by omega), by simp⟩
   obtain ⟨m1, hm1⟩ : ∃ m1, A.ms[k]? = some m1 := ⟨A.ms[k]'(by omega), by simp⟩
   obtain ⟨y0, hy0, hv0⟩ := val_at hat0.val hm0
   obtain ⟨y1, hy1, hv1⟩ := val_at hat.val hm1
   have hk0 := hat0.ks y0 (List.mem_of_getElem? hy0)
   have hk1 := hat.ks y1 (List.mem_of_getElem? hy1)
   have hf0 := sf.kx ha y0 (List.mem_of_getElem? hy0)
   obtain ⟨bo, oo, hi0, lo0, _, _⟩ := mr_at hat0.ms hy0
   obtain ⟨bo1, oo1, hi1, lo1, _, _⟩ := mr_at hat.ms hy1
   have s1 := hk0.ws.cells
   have s2 := hk0.vs.cells
   have s3 := hk1.ws.cells
   have s4 := hk1.vs.cells
   by_cases hkp : k = p
   ·have e0 : y0.k.t = o.1.t := by
     rw [hkp, hpo] at hm0
     rw [Option.some.inj hm0, ← hv0]; rfl
    have e1 : y1.k.t = o.1.t + 1 := by
     rw [hkp, hx] at hm1
     rw [← hxt, Option.some.inj hm1, ← hv1]; rfl
    have wt : IntKind.i64.wrap (o.1.t + 1) = o.1.t + 1 := wrap_i64 (by omega) (by omega)
    have hkk : ((k : Int) != (p : Int)) = false := by rw [hkp]; simp
    have hk2 : ((k : Int) == (p : Int)) = true := by rw [hkp]; simp
    have htt : ((o.1.t + 1) != (o.1.t + 1)) = false := by simp
    clear hkp
    clear hv0 hv1 hx hxt tr te ts hpo
    refine goM ?_
    refine wq_late ?_
    have np := no_pend (T := T) h
    repeat (first | (refine e_pl ?_; refine e_goM ?_) | refine e_nil ?_)
    refine e_lateG np hat.ms.under ?_
    clear np
    refine e_np (one_pend (pend_box (off := 9) (b := b2) (cs := qa.c A) hM (by (repeat (first | exact Has.here | apply Has.there))) T29 rfl rfl)) fun np => ?_
    repeat (first | (refine e_pl ?_; refine e_goM ?_) | refine e_nil ?_)
    refine e_lateG np (v := .agg (mC y1.w y1.v y1.k y1.h)) (by simp [V.under, V.unders, hk1.ws.under, hk1.vs.under]) ?_
    clear np
    refine e_newM (cs := zeroMem) T51 rfl fun b8 H5 hM => ⟨?_, ?_⟩
    ·exact two_pend (pend_load (b := bo1) (off := oo1) eLk (mr_ld (ka.at_ hM).ms hi1 hy1)) (pend_box (off := 9) (b := b2) (cs := qa.c A) hM (by (repeat (first | exact Has.here | apply Has.there))) T29 rfl rfl)
    refine e_newM (cs := zeroMem) T51 rfl fun b9 H6 hM => ⟨?_, ?_⟩
    ·exact two_pend (pend_load (b := bo1) (off := oo1) eLk (mr_ld (ka.at_ hM).ms hi1 hy1)) (pend_box (off := 9) (b := b2) (cs := qa.c A) hM (by (repeat (first | exact Has.here | apply Has.there))) T29 rfl rfl)
    refine e_putM T51 fun H7 hM => ⟨?_, ?_⟩
    ·exact two_pend (pend_load (b := bo1) (off := oo1) eLk (mr_ld (ka.at_ hM).ms hi1 hy1)) (pend_box (off := 9) (b := b2) (cs := qa.c A) hM (by (repeat (first | exact Has.here | apply Has.there))) T29 rfl rfl)
    refine e_putM T51 fun H8 hM => ⟨?_, ?_⟩
    ·exact two_pend (pend_load (b := bo1) (off := oo1) eLk (mr_ld (ka.at_ hM).ms hi1 hy1)) (pend_box (off := 9) (b := b2) (cs := qa.c A) hM (by (repeat (first | exact Has.here | apply Has.there))) T29 rfl rfl)
    refine e_nil ?_
    refine goM ?_
    exact ⟨n - (k + 1), by omega, k + 1, hk', rfl, hM.subG, by simp [put_app, put_none, *]⟩
   ·have hmm : m1 = m0 := by
     have := tr k hkp
     rw [hm0, hm1] at this
     exact Option.some.inj this
    subst hmm
    have hkk : y1.k = y0.k := by rw [show y1.k = m1.1 from congrArg Prod.fst hv1, show y0.k = m1.1 from congrArg Prod.fst hv0]
    have hhh : y1.h = y0.h := by rw [show y1.h = m1.2 from congrArg Prod.snd hv1, show y0.h = m1.2 from congrArg Prod.snd hv0]
    obtain ⟨yw, yv, yk, yh⟩ := y1
    obtain ⟨zw, zv, zk, zh⟩ := y0
    simp only at hkk hhh hk0 hk1 hf0 lo0 lo1 s1 s2 s3 s4
    subst hkk
    subst hhh
    have hkp1 : ((k : Int) != (p : Int)) = true := by simp; omega
    have hkp2 : ((k : Int) == (p : Int)) = false := by simp; omega
    have hhh : (yh != yh) = false := by simp
    have hMh := hM.pre
    clear hv0 hv1 hx hxt tr te ts hpo hm0 hm1
    refine goM ?_
    refine wq_late ?_
    have np := no_pend (T := T) h
    repeat (first | (refine e_pl ?_; refine e_goM ?_) | refine e_nil ?_)
    refine e_lateG np hat.ms.under ?_
    clear np
    refine e_np (one_pend (pend_box (off := 9) (b := b2) (cs := qa.c A) hM (by (repeat (first | exact Has.here | apply Has.there))) T29 rfl rfl)) fun np => ?_
    repeat (first | (refine e_pl ?_; refine e_goM ?_) | refine e_nil ?_)
    refine e_lateG np (v := .agg (mC yw yv yk yh)) (by simp [V.under, V.unders, hk1.ws.under, hk1.vs.under]) ?_
    clear np
    refine e_newM (cs := zeroMem) T51 rfl fun b8 H5 hM => ⟨?_, ?_⟩
    ·exact two_pend (pend_load (b := bo1) (off := oo1) eLk (mr_ld (ka.at_ hM).ms hi1 hy1)) (pend_box (off := 9) (b := b2) (cs := qa.c A) hM (by (repeat (first | exact Has.here | apply Has.there))) T29 rfl rfl)
    refine e_newM (cs := zeroMem) T51 rfl fun b9 H6 hM => ⟨?_, ?_⟩
    ·exact two_pend (pend_load (b := bo1) (off := oo1) eLk (mr_ld (ka.at_ hM).ms hi1 hy1)) (pend_box (off := 9) (b := b2) (cs := qa.c A) hM (by (repeat (first | exact Has.here | apply Has.there))) T29 rfl rfl)
    refine e_putM T51 fun H7 hM => ⟨?_, ?_⟩
    ·exact two_pend (pend_load (b := bo1) (off := oo1) eLk (mr_ld (ka.at_ hM).ms hi1 hy1)) (pend_box (off := 9) (b := b2) (cs := qa.c A) hM (by (repeat (first | exact Has.here | apply Has.there))) T29 rfl rfl)
    refine e_putM T51 fun H8 hM => ⟨?_, ?_⟩
    ·exact two_pend (pend_load (b := bo1) (off := oo1) eLk (mr_ld (ka.at_ hM).ms hi1 hy1)) (pend_box (off := 9) (b := b2) (cs := qa.c A) hM (by (repeat (first | exact Has.here | apply Has.there))) T29 rfl rfl)
    refine e_nil ?_
    have c2 := sameK_ H8 zw zv yw yv yk yk ((ha.mono hM.pre).ks _ (List.mem_of_getElem? hy0)) ((ka.at_ hM).ks _ (List.mem_of_getElem? hy1)) hf0
    rw [kEq_self] at c2
    clear hy0 hy1
    refine goM ?_
    refine l_callG c2 ?_
    refine goM ?_
    exact ⟨n - (k + 1), by omega, k + 1, hk', rfl, hM.subG, by simp [put_app, put_none, *]⟩
  ·have hke : k = n := by omega
   subst hke
   have dk : decide ((k : Int) < (k : Int)) = false := decide_eq_false (by omega)
   obtain ⟨N, hN⟩ : ∃ N, A.es.length = N := ⟨_, rfl⟩
   obtain ⟨M, hMl⟩ : ∃ M, s.es.length = M := ⟨_, rfl⟩
   rw [hN] at g1 tm1 tm2
   rw [hMl] at hle hel tm1 tm2 te ts
   clear hk'
   refine goM ?_
   refine wq_loop (fun cc ρ h => ∃ (i : Nat), i ≤ N ∧ M ≤ i ∧ cc = N - i ∧ Mem K h [.box b2 (qa.c A), qa.own A, .box b1 (stC s.c rv mv ev sv)] ∧ ρ 1 = .int .i64 (p : Int) ∧ ρ 2 = .ptr b1 0 ∧ ρ 5 = .ptr b2 0 ∧ ρ 10 = .int .i64 (i : Int)) ⟨M, by omega, Nat.le_refl _, rfl, hM, by simp [put_app, put_none, rho0_app, *]⟩ ?_
   repeat clear hM
   clear h1 h2 h5 h7
   rintro _ ρ h ⟨i, hiN, hMi, rfl, hM, h1, h2, h5, h10⟩
   by_cases hi' : i < N
   ·have di : decide ((i : Int) < (N : Int)) = true := decide_eq_true (by omega)
    have hw := wrap_succ (n := i) (by omega)
    obtain ⟨e, he⟩ : ∃ e, A.es[i]? = some e := ⟨A.es[i]'(by omega), by simp⟩
    have hem := te i e hMi he
    obtain ⟨bo, oo, _, ji, jc, _, _, jl⟩ := (ka.at_ hM).es.get T30 rfl T61 rfl he
    have j1 : loadV T 3 h bo (oo + 1) = some (.int .i64 (p : Int)) := loadV_one T3 rfl (jl 1 _ (by rw [jc, ← hem]; rfl))
    have hpp : ((p : Int) != (p : Int)) = false := by simp
    clear jl jc he hem te ts
    refine goM ?_
    exact ⟨N - (i + 1), by omega, i + 1, by omega, by omega, rfl, hM, by simp [put_app, put_none, *]⟩
   ·have hie : i = N := by omega
    subst hie
    have di : decide ((i : Int) < (i : Int)) = false := decide_eq_false (by omega)
    obtain ⟨us, hus, hsl⟩ := (ka.at_ hM).es.take (k := M) (by omega)
    rw [ts] at hsl
    have c1 := sameEvents h us ev s.es s.es hsl (ha.mono hM.pre).es (by omega)
    rw [decide_eq_true rfl] at c1
    clear hi' hsl te ts hN hMl
    refine goM ?_
    refine d_call0G c1 ?_
    refine goM ?_
    exact end_1 (by first | exact .inl rfl | exact .inr rfl) ⟨rfl, hM.pre⟩
 ·have hee : (e != 0) = true := by simpa using hne
  refine goM ?_
  obtain ⟨_, H2, c1, qa, rfl, ka, m1⟩ := doP_ ho H1 (ha.mono hM.pre) sf
  refine l_callG c1 ?_
  replace hM := hM.call1 m1
  clear c1 m1
  refine goM ?_
  refine l_newM (cs := zeroSt) T33 rfl fun b2 H3 hM => ?_
  refine l_putM T33 fun H4 hM => ?_
  clear hne
  have c1 := sameP_ H4 noSt (ka.at_ hM) (noSt_at H4) no_fit
  refine goM ?_
  refine l_callG (num_ _ _) ?_
  refine goM ?_
  refine l_callG c1 ?_
  refine goM ?_
  exact end_1 (by first | exact .inl rfl | exact .inr rfl) ⟨rfl, hM.pre⟩
theorem newS_len {c : Cfg} (hc : cfgMay c = true) : ((newS c).ms.length : Int) = c.m := (stOk_of (newS_may hc)).len
theorem law_stepAlone {D : Type} (K : Heap) (vs : List V) (ds : List (DataW D)) (ro : Ro K) (h : RdAll T K [26, 3, 3] vs ds) : ∃ K', Call Tryz.prog 10 vs K (.bool true) K' := by
 obtain ⟨v1, vs, d1, ds, rfl, rfl, hv1, h⟩ := rdAll_cons h
 obtain ⟨v2, vs, d2, ds, rfl, rfl, hv2, h⟩ := rdAll_cons h
 obtain ⟨v3, vs, d3, ds, rfl, rfl, hv3, h⟩ := rdAll_cons h
 obtain ⟨rfl, rfl⟩ := rdAll_nil h
 obtain ⟨c0, rv, rfl, hr, cf0⟩ := rd_config hv1
 obtain ⟨a, rfl, _⟩ := hv2.int T3 rfl
 obtain ⟨b, rfl, _⟩ := hv3.int T3 rfl
 clear hv1 hv2 hv3 h
 have s3 : rv.cells = [rv] ∧ rv.isTup = false := by obtain ⟨_, h, _⟩ := hr; exact h.cells
 refine ⟨K, ?_⟩
 refine call_pure fit mixed Tryz.func10 rfl rfl rfl (by kernel_rfl) rfl fun hM => ?_
 refine wq_seq (wq_line ?_)
 refine l_boxM T26 fun b1 H1 hM => ?_
 refine goM ?_
 refine l_callG (awake23_ _) ?_
 refine goM ?_
 refine l_putM T3 fun H2 hM => ?_
 replace hM : Mem K H2 [.box b1 (cfgC (far c0) rv)] := hM
 have hin : Held ((far c0).interval = 8) := rfl
 have hr : Rows K rv (far c0).rows := hr
 have cf : (far c0).Fit := ⟨cf0.rows, cf0.row⟩
 generalize far c0 = c at *
 clear cf0
 have l1 := cf.rows
 have l2 := cf.row
 have nf := newR_fit cf
 cases hc : cfgMay c with
 | false =>
  have hn : newR c = (noSt, 2200) := by unfold newR; rw [hc, if_neg (by decide)]
  refine goM ?_
  obtain ⟨_, H3, c1, q0, rfl, k0, m1⟩ := newQ_ hn H2 rv (hr.mono hM.pre) cf
  refine l_callG c1 ?_
  replace hM := hM.call1 m1
  clear c1 m1
  refine goM ?_
  refine l_newM (cs := zeroSt) T33 rfl fun b2 H4 hM => ?_
  refine l_putM T33 fun H5 hM => ?_
  have c1 := refConfMay_ H5 c rv (hr.mono hM.pre) (by omega) (fun r hr => by have := l2 r hr; omega)
  rw [hc] at c1
  clear hn hc hin
  refine goM ?_
  refine l_callG c1 ?_
  refine goM ?_
  exact end_1 (by first | exact .inl rfl | exact .inr rfl) ⟨rfl, hM.pre⟩
 | true =>
  have hn : newR c = (newS c, 0) := by unfold newR; rw [hc, if_pos rfl]
  obtain ⟨⟨hm2, hm8⟩, _, _, ⟨hT1, hT2⟩, _⟩ := cfgMay_split hc
  have U1 := modU_spec a (m := c.m) (by omega) (by omega)
  have U2 := modU_spec b (m := c.m) (by omega) (by omega)
  generalize modU a c.m = p at *
  generalize modU b c.m = q at *
  obtain ⟨p1, p2, p3, p4, p5⟩ := U1
  obtain ⟨r1, _, r3, r4, _⟩ := U2
  obtain ⟨op, hop, hopk⟩ := new_at hc p1
  obtain ⟨oq, hoq, hoqk⟩ := new_at hc r1
  have hok := stOk_of (newS_may hc)
  have hnl := newS_len hc
  rw [hn] at nf
  simp only at nf
  have key : p ≠ q → ∃ Y W, doR (newS c) p = (doS (newS c) p, 0) ∧ doR (doS (newS c) p) q = (Y, 0) ∧ doR (newS c) q = (doS (newS c) q, 0) ∧ doR (doS (newS c) q) p = (W, 0) ∧ Y.ms.map (·.1) = W.ms.map (·.1) ∧ (Y.ms.length : Int) = c.m ∧ (W.ms.length : Int) = c.m := fun hpq => by
   have tp : op.1.t = 0 := by rw [hopk]; rfl
   have tq : oq.1.t = 0 := by rw [hoqk]; rfl
   have e8 : (newS c).c.interval = 8 := hin
   have et : (newS c).c.total = c.total := rfl
   have h1 : (op.1.t + 1).tmod (newS c).c.interval ≠ 0 := by rw [tp, e8]; decide
   have h2 : (oq.1.t + 1).tmod (newS c).c.interval ≠ 0 := by rw [tq, e8]; decide
   have hl0 : (newS c).es.length + 8 ≤ 1024 := by show 0 + 8 ≤ _; decide
   obtain ⟨x1, x2, _⟩ := alone hok hop hoq hpq (by rw [tp, et]; omega) (by rw [tq, et]; omega) h1 h2 hl0
   obtain ⟨y1, y2, _⟩ := alone hok hoq hop (Ne.symm hpq) (by rw [tq, et]; omega) (by rw [tp, et]; omega) h2 h1 hl0
   exact ⟨_, _, doR_of x1, doR_of x2, doR_of y1, doR_of y2, alone_swap hok hop hoq hpq (by rw [tp, et]; omega) (by rw [tq, et]; omega) h1 h2 hl0, by rw [(do_turned x2).len, (do_turned x1).len]; exact hnl, by rw [(do_turned y2).len, (do_turned y1).len]; exact hnl⟩
  clear hok hnl hop hoq hopk hoqk
  generalize newS c = S at *
  obtain ⟨X, e1, hx⟩ : ∃ A e, doR S p = (A, e) := ⟨_, _, rfl⟩
  obtain ⟨Y, e2, hy⟩ : ∃ A e, doR X q = (A, e) := ⟨_, _, rfl⟩
  obtain ⟨Z, e3, hz⟩ : ∃ A e, doR S q = (A, e) := ⟨_, _, rfl⟩
  obtain ⟨W, e4, hw⟩ : ∃ A e, doR Z p = (A, e) := ⟨_, _, rfl⟩
  have xf : X.Fit := by have := doR_fit nf p; rw [hx] at this; exact this
  have yf : Y.Fit := by have := doR_fit xf q; rw [hy] at this; exact this
  have zf : Z.Fit := by have := doR_fit nf q; rw [hz] at this; exact this
  have key2 : p ≠ q → e1 = 0 ∧ e2 = 0 ∧ e3 = 0 ∧ e4 = 0 ∧ Y.ms.map (·.1) = W.ms.map (·.1) ∧ (Y.ms.length : Int) = c.m ∧ (W.ms.length : Int) = c.m := fun hpq => by
   obtain ⟨Y', W', g1, g2, g3, g4, g5, g6, g7⟩ := key hpq
   rw [hx] at g1
   rw [hz] at g3
   simp only [Prod.mk.injEq] at g1 g3
   obtain ⟨rfl, rfl⟩ := g1
   obtain ⟨rfl, rfl⟩ := g3
   rw [hy] at g2
   rw [hw] at g4
   simp only [Prod.mk.injEq] at g2 g4
   obtain ⟨rfl, rfl⟩ := g2
   obtain ⟨rfl, rfl⟩ := g4
   exact ⟨rfl, rfl, rfl, rfl, g5, g6, g7⟩
  clear key hin hc
  refine goM ?_
  obtain ⟨_, H3, c1, q0, rfl, k0, m1⟩ := newQ_ hn H2 rv (hr.mono hM.pre) cf
  refine l_callG c1 ?_
  replace hM := hM.call1 m1
  clear c1 m1 hn
  refine goM ?_
  refine l_newM (cs := zeroSt) T33 rfl fun b2 H4 hM => ?_
  refine l_putM T33 fun H5 hM => ?_
  refine goM ?_
  obtain ⟨_, H6, c1, qx, rfl, kx, m1⟩ := doP_ hx H5 (k0.at_ hM) nf
  refine l_callG c1 ?_
  replace hM := hM.call1 m1
  clear c1 m1
  refine goM ?_
  refine l_newM (cs := zeroSt) T33 rfl fun b3 H7 hM => ?_
  refine l_putM T33 fun H8 hM => ?_
  refine goM ?_
  obtain ⟨_, H9, c1, qy, rfl, ky, m1⟩ := doP_ hy H8 (kx.at_ hM) xf
  refine l_callG c1 ?_
  replace hM := hM.call1 m1
  clear c1 m1
  refine goM ?_
  refine l_newM (cs := zeroSt) T33 rfl fun b4 H10 hM => ?_
  refine l_putM T33 fun H11 hM => ?_
  refine goM ?_
  obtain ⟨_, H12, c1, qz, rfl, kz, m1⟩ := doP_ hz H11 (k0.at_ hM) nf
  refine l_callG c1 ?_
  replace hM := hM.call1 m1
  clear c1 m1
  refine goM ?_
  refine l_newM (cs := zeroSt) T33 rfl fun b5 H13 hM => ?_
  refine l_putM T33 fun H14 hM => ?_
  refine goM ?_
  obtain ⟨_, H15, c1, qw, rfl, kw, m1⟩ := doP_ hw H14 (kz.at_ hM) zf
  refine l_callG c1 ?_
  replace hM := hM.call1 m1
  clear c1 m1
  refine goM ?_
  refine l_newM (cs := zeroSt) T33 rfl fun b6 H16 hM => ?_
  refine l_putM T33 fun H17 hM => ?_
  clear hx hy hz hw p1 r1 p2 p3 r3 p4 r4 p5
  by_cases hpq : p = q
  ·have hq : ((p : Int) == (q : Int)) = true := by rw [hpq]; simp
   clear key2 hpq
   refine goM ?_
   exact end_1 (by first | exact .inl rfl | exact .inr rfl) ⟨rfl, hM.pre⟩
  ·have hq : ((p : Int) == (q : Int)) = false := by simp; omega
   obtain ⟨rfl, rfl, rfl, rfl, g5, g6, g7⟩ := key2 hpq
   clear key2 hpq
   obtain ⟨n, hcn⟩ : ∃ n : Nat, c.m = n := ⟨c.m.toNat, by omega⟩
   have hyl := (ky.at_ hM).ms.len T29 rfl
   rw [(ky.at_ hM).len, g6] at hyl
   have hwl := (kw.at_ hM).ms.len T29 rfl
   rw [(kw.at_ hM).len, g7] at hwl
   have hmm : (c.m != c.m) = false := by simp
   have hM0 : Mem K H17 [.box b6 (qw.c W), qw.own W, .box b4 (qy.c Y), qy.own Y, .box b1 (cfgC c rv)] := hM.subG
   have hn8 : n ≤ 8 := by omega
   replace hcn : Held (c.m = n) := hcn
   clear hm2 hm8
   refine goM ?_
   refine l_callG (num_ _ _) ?_
   refine goM ?_
   refine l_callG (num_ _ _) ?_
   refine goM ?_
   refine l_callG (num_ _ _) ?_
   refine goM ?_
   refine l_callG (num_ _ _) ?_
   refine goM ?_
   clear hyl hwl
   refine wq_loop (fun cc ρ h => ∃ (k : Nat), k ≤ n ∧ cc = n - k ∧ Mem K h [.box b6 (qw.c W), qw.own W, .box b4 (qy.c Y), qy.own Y, .box b1 (cfgC c rv)] ∧ ρ 3 = .ptr b1 0 ∧ ρ 13 = .ptr b4 0 ∧ ρ 17 = .ptr b6 0 ∧ ρ 19 = .int .i64 (k : Int)) ⟨0, Nat.zero_le _, rfl, hM0, by simp [put_app, put_none, rho0_app, *]⟩ ?_
   repeat clear hM
   clear hM0
   rintro _ ρ h ⟨k, hk, rfl, hM, h3, h13, h17, h19⟩
   by_cases hk' : k < n
   ·have dk : decide ((k : Int) < c.m) = true := decide_eq_true (by have : c.m = (n : Int) := hcn; omega)
    have hw := wrap_succ (n := k) (by omega)
    have g6' : (Y.ms.length : Int) = n := by have : c.m = (n : Int) := hcn; omega
    have g7' : (W.ms.length : Int) = n := by have : c.m = (n : Int) := hcn; omega
    have aty := ky.at_ hM
    have atw := kw.at_ hM
    obtain ⟨m0, hm0⟩ : ∃ m0, Y.ms[k]? = some m0 := ⟨Y.ms[k]'(by omega), by simp⟩
    obtain ⟨m1, hm1⟩ : ∃ m1, W.ms[k]? = some m1 := ⟨W.ms[k]'(by omega), by simp⟩
    have hmk : m0.1 = m1.1 := by
     have := congrArg (fun l => l[k]?) g5
     simp only [List.getElem?_map, hm0, hm1, Option.map_some, Option.some.injEq] at this
     exact this
    obtain ⟨y0, hy0, hv0⟩ := val_at aty.val hm0
    obtain ⟨y1, hy1, hv1⟩ := val_at atw.val hm1
    have hk0 := aty.ks y0 (List.mem_of_getElem? hy0)
    have hk1 := atw.ks y1 (List.mem_of_getElem? hy1)
    have hf0 := yf.kx aty y0 (List.mem_of_getElem? hy0)
    obtain ⟨bo, oo, hi0, _⟩ := mr_at aty.ms hy0
    obtain ⟨bo1, oo1, hi1, _⟩ := mr_at atw.ms hy1
    obtain ⟨lo0, _⟩ := mr_in aty.ms hi0 hy0
    obtain ⟨lo1, _⟩ := mr_in atw.ms hi1 hy1
    have hkk : y1.k = y0.k := by rw [show y1.k = m1.1 from congrArg Prod.fst hv1, show y0.k = m0.1 from congrArg Prod.fst hv0, hmk]
    have c1 := sameK_ h y0.w y0.v y1.w y1.v y0.k y1.k hk0 hk1 hf0
    rw [hkk, kEq_self] at c1
    rw [hkk] at lo1
    clear g5 g6' g7' hm0 hm1 hmk hy0 hy1 hv0 hv1 hkk hk0 hk1 aty atw
    refine goM ?_
    refine d_call0G c1 ?_
    refine goM ?_
    exact ⟨n - (k + 1), by omega, k + 1, hk', rfl, hM, by simp [put_app, put_none, *]⟩
   ·have dk : decide ((k : Int) < c.m) = false := decide_eq_false (by have : c.m = (n : Int) := hcn; omega)
    refine goM ?_
    exact end_1 (by first | exact .inl rfl | exact .inr rfl) ⟨rfl, hM.pre⟩
theorem fillE_start (st : List Ent) : fillE st st.length = st := by unfold fillE; simp
theorem fillE_succ (st : List Ent) {i : Nat} (h : st.length ≤ i) : fillE st (i + 1) = fillE st i ++ [spare i] := by
 unfold fillE
 rw [show i + 1 - st.length = (i - st.length) + 1 by omega, List.range_succ, List.map_append, List.append_assoc]
 simp only [List.map_cons, List.map_nil]
 rw [show st.length + (i - st.length) = i by omega]
theorem law_stepFull {D : Type} (K : Heap) (vs : List V) (ds : List (DataW D)) (ro : Ro K) (h : RdAll T K [26, 3, 3] vs ds) : ∃ K', Call Tryz.prog 9 vs K (.bool true) K' := by
 obtain ⟨v1, vs, d1, ds, rfl, rfl, hv1, h⟩ := rdAll_cons h
 obtain ⟨v2, vs, d2, ds, rfl, rfl, hv2, h⟩ := rdAll_cons h
 obtain ⟨v3, vs, d3, ds, rfl, rfl, hv3, h⟩ := rdAll_cons h
 obtain ⟨rfl, rfl⟩ := rdAll_nil h
 obtain ⟨c, rv, rfl, hr, cf⟩ := rd_config hv1
 obtain ⟨a, rfl, _⟩ := hv2.int T3 rfl
 obtain ⟨b, rfl, _⟩ := hv3.int T3 rfl
 clear hv1 hv2 hv3 h
 have s3 : rv.cells = [rv] ∧ rv.isTup = false := by obtain ⟨_, h, _⟩ := hr; exact h.cells
 have l1 := cf.rows
 have l2 := cf.row
 have nf := newR_fit cf
 obtain ⟨z, hz, hz0, hz1⟩ := and_mask b 1 (by decide) (by decide)
 replace hz : IntKind.i64.wrap ((BitVec.ofInt IntKind.i64.bits b &&& BitVec.ofInt IntKind.i64.bits 1).toNat : Int) = z := hz
 refine ⟨K, ?_⟩
 refine call_pure fit mixed Tryz.func9 rfl rfl rfl (by kernel_rfl) rfl fun hM => ?_
 refine wq_seq (wq_line ?_)
 refine l_boxM T26 fun b1 H1 hM => ?_
 refine goM ?_
 refine l_callG (awake23_ _) ?_
 cases hc : cfgMay c with
 | false =>
  have hn : newR c = (noSt, 2200) := by unfold newR; rw [hc, if_neg (by decide)]
  clear hz
  refine goM ?_
  obtain ⟨_, H3, c1, q0, rfl, k0, m1⟩ := newQ_ hn H1 rv (hr.mono hM.pre) cf
  refine l_callG c1 ?_
  replace hM := hM.call1 m1
  clear c1 m1 hn hc
  refine goM ?_
  refine l_newM (cs := zeroSt) T33 rfl fun b2 H4 hM => ?_
  refine l_putM T33 fun H5 hM => ?_
  refine goM ?_
  exact end_1 (by first | exact .inl rfl | exact .inr rfl) ⟨rfl, hM.pre⟩
 | true =>
  have hn : newR c = (newS c, 0) := by unfold newR; rw [hc, if_pos rfl]
  obtain ⟨⟨hm2, hm8⟩, _⟩ := cfgMay_split hc
  have U1 := modU_spec a (m := c.m) (by omega) (by omega)
  generalize modU a c.m = p at *
  obtain ⟨p1, p2, p3, p4, p5⟩ := U1
  obtain ⟨⟨oa, pa, la⟩, ⟨ob, pb, lb⟩⟩ := fill_do hc p1
  have hstl : (newS c).st.length ≤ 8 := by have := (new_ok hc c.m.toNat (by omega)).1.stl; show (newF c c.m.toNat).2.length ≤ 8; omega
  rw [hn] at nf
  simp only at nf
  obtain ⟨kk, hkk, hk64, hwk, o, pk, hlast⟩ : ∃ (kk : Nat), 63 ≤ kk ∧ kk ≤ 64 ∧ IntKind.i64.wrap (64 - z) = (kk : Int) ∧ ∃ o, Picks (fillS c kk) p o ∧ ((z == 0) && decide (((doS (fillS c kk) p).st.length : Int) ≤ 9) || (z == 1) && (((doS (fillS c kk) p).st.length : Int) == 64)) = true := by
   by_cases h0 : z = 0
   ·subst h0
    refine ⟨64, by decide, by decide, by rw [wrap_i64 (by omega) (by omega)]; rfl, oa, pa, ?_⟩
    rw [decide_eq_true (by omega)]; rfl
   ·have h1 : z = 1 := by omega
    subst h1
    refine ⟨63, by decide, by decide, by rw [wrap_i64 (by omega) (by omega)]; rfl, ob, pb, ?_⟩
    rw [lb]; rfl
  have hdo := doR_of pk
  have hmay := of_stOk pk.ok
  have ff : (fillS c kk).Fit := ok_fit pk.ok cf
  have of := do_fit pk ff
  have hkc : (newS c).c = c := rfl
  have hke : (newS c).es = [] := rfl
  have hfc : (fillS c kk).c = c := rfl
  have hfm : (fillS c kk).ms = (newS c).ms := rfl
  have hfe : (fillS c kk).es = [] := rfl
  have hfs : (fillS c kk).st = fillE (newS c).st kk := rfl
  clear pa pb la lb pk hz0 hz1
  generalize doS (fillS c kk) p = A at *
  generalize fillS c kk = F at *
  refine goM ?_
  obtain ⟨_, H3, c1, q0, rfl, k0, m1⟩ := newQ_ hn H1 rv (hr.mono hM.pre) cf
  have hq0 : q0.c (newS c) = stC c q0.u q0.mv q0.ev q0.sv := rfl
  rw [hq0] at c1
  generalize newS c = S at *
  refine l_callG c1 ?_
  replace hM := hM.call1 m1
  have hat0 := k0.at_ hM
  obtain ⟨y1, y2, y3, y4⟩ := hat0.celled
  have hsl := hat0.st.len T31 rfl
  clear c1 m1 hn hc hat0 hq0
  replace hM : Mem K H3 (stOwn q0.u q0.mv q0.ev q0.sv q0.rvs q0.xs S ++ [.box b1 (cfgC c rv)]) := Mem.unpacked (L := stOwn q0.u q0.mv q0.ev q0.sv q0.rvs q0.xs S) hM
  have hlk := k0.lk
  have hvl := k0.val
  obtain ⟨u, mv, ev, sv, rvs, xs⟩ := q0
  simp only at hM hlk hvl hsl y1 y2 y3 y4 ⊢
  unfold stOwn at hM
  simp only [List.cons_append, List.nil_append] at hM
  rw [hke, hkc] at hM
  rw [hkc] at hlk
  refine goM ?_
  refine l_newM (cs := zeroSt) T33 rfl fun b2 H4 hM => ?_
  refine l_putM T33 fun H5 hM => ?_
  refine goM ?_
  have hM0 : Mem K H5 [.own 3 entC sv (fillE S.st S.st.length), .box b2 (stC c u mv ev sv), .ro (pack (rowsR u rvs c.rows)), .ro (pack (mems xs)), .own 6 mrC mv xs, .own 6 evC ev [], .box b1 (cfgC c rv)] := by
   rw [fillE_start]
   exact (hM.front (r := .own 3 entC sv S.st) (by (repeat (first | exact Take.here | apply Take.there)))).sub (by (repeat (first | exact List.Sublist.slnil | exact List.Sublist.refl _ | refine List.Sublist.cons_cons _ ?_ | refine List.Sublist.cons _ ?_)))
  refine wq_loop (fun cc ρ h => ∃ (i : Nat) (w : V), S.st.length ≤ i ∧ i ≤ kk ∧ cc = kk - i ∧ Mem K h [.own 3 entC w (fillE S.st i), .box b2 (stC c u mv ev w), .ro (pack (rowsR u rvs c.rows)), .ro (pack (mems xs)), .own 6 mrC mv xs, .own 6 evC ev [], .box b1 (cfgC c rv)] ∧ ρ 1 = .int .i64 a ∧ ρ 2 = .int .i64 b ∧ ρ 3 = .ptr b1 0 ∧ ρ 7 = .ptr b2 0 ∧ ρ 9 = .int .i64 (kk : Int) ∧ ρ 10 = .int .i64 (i : Int)) ⟨S.st.length, sv, Nat.le_refl _, by omega, rfl, hM0, by simp [put_app, put_none, rho0_app, *]⟩ ?_
  repeat clear hM
  clear hM0 hsl y4
  rintro _ ρ h ⟨i, w, hsi, hi, rfl, hM, g1, g2, g3, g7, g9, g10⟩
  have y4 := (hM.sl .here).cells
  by_cases hi' : i < kk
  ·have di : decide ((i : Int) < (kk : Int)) = true := decide_eq_true (by omega)
   have hw := wrap_succ (n := i) (by omega)
   have w1 : IntKind.i64.wrap (100 + (i : Int)) = ((100 + i : Nat) : Int) := by rw [wrap_i64 (by omega) (by omega)]; omega
   have w2 : IntKind.u8.wrap (i : Int) = (i : Int) := by
    unfold IntKind.wrap
    simp only [IntKind.bits, IntKind.signed, Bool.false_and, Bool.false_eq_true, if_false]
    exact Int.emod_eq_of_lt (by omega) (by omega)
   have hfl : (fillE S.st i).length = i := fill_len hsi
   refine goM ?_
   refine l_sliceM byteC [(i : Int)] [.int .u8 (i : Int)] T77 rfl T5 rfl (Cells.one (sz := 1) rfl rfl) (by decide) fun e1 H6 hM => ?_
   refine l_step (s_toStr eLk (hM.sl .here)) ?_
   refine goM ?_
   refine l_sliceM (sz := 3) entC [spare i] (entV (spare i)) T31 rfl T73 rfl (cells_of (R := entC) entV (fun x => ⟨rfl, rfl⟩) [spare i]) (by decide) fun e2 H7 hM => ?_
   refine goM ?_
   refine l_appM (hM.sl .here) (xs := fillE S.st i) (hh := by (repeat (first | exact Has.here | apply Has.there))) (hb := by rw [hfl]; simp only [List.length_cons, List.length_nil]; show (i + 1) * 32 ≤ _ ∧ i + 1 ≤ _; omega) fun w' H8 hM => ?_
   have y5 := (hM.sl (v := w') (xs := fillE S.st i ++ [spare i]) (by (repeat (first | exact Has.here | apply Has.there)))).cells
   refine goM ?_
   refine l_putM T31 fun H9 hM => ?_
   refine goM ?_
   refine ⟨kk - (i + 1), by omega, i + 1, w', by omega, hi', rfl, ?_, by simp [put_app, put_none, *]⟩
   rw [fillE_succ _ hsi]
   exact hM.subG
  ·have hie : i = kk := by omega
   subst hie
   have di : decide ((i : Int) < (i : Int)) = false := decide_eq_false (by omega)
   have hF : stC c u mv ev w = stC F.c u mv ev w := by rw [hfc]
   have atF : ∀ h', Mem K h' [.own 3 entC w (fillE S.st i), .box b2 (stC c u mv ev w), .ro (pack (rowsR u rvs c.rows)), .ro (pack (mems xs)), .own 6 mrC mv xs, .own 6 evC ev [], .box b1 (cfgC c rv)] → StAt h' u mv ev w xs F := fun h' hM => ⟨by rw [hfc]; exact rows_pack (hM.fact (F := pack (rowsR u rvs c.rows)) (by (repeat (first | exact Has.here | apply Has.there)))) hlk, hM.sl (v := mv) (xs := xs) (by (repeat (first | exact Has.here | apply Has.there))), by rw [hfm]; exact hvl, mems_at (hM.fact (F := pack (mems xs)) (by (repeat (first | exact Has.here | apply Has.there)))), by rw [hfe]; exact hM.sl (v := ev) (xs := []) (by (repeat (first | exact Has.here | apply Has.there))), by rw [hfs]; exact hM.sl .here⟩
   have hat := atF h hM
   have hdoP := fun H ha => doP_ hdo H (rv := u) (mv := mv) (ev := ev) (sv := w) (xs := xs) ha ff
   have hdoD := fun H ha => doD_ hdo H (rv := u) (mv := mv) (ev := ev) (sv := w) (xs := xs) ha ff
   have hMay := fun H ha => refStateMay_ H F u mv ev w xs ha ff
   rw [hmay] at hMay
   rw [← hF] at hdoP hdoD hMay
   clear hdo hmay hi'
   refine goM ?_
   obtain ⟨_, H6, c1, qa, rfl, ka, m1⟩ := hdoP h hat
   refine l_callG c1 ?_
   replace hM := hM.call1 m1
   clear c1 m1
   refine goM ?_
   refine l_newM (cs := zeroSt) T33 rfl fun b5 H7 hM => ?_
   refine l_putM T33 fun H8 hM => ?_
   refine goM ?_
   obtain ⟨_, H9, c1, qb, rfl, kb, m1⟩ := hdoD H8 (atF H8 (hM.subG))
   refine l_callG c1 ?_
   replace hM := hM.call1 m1
   clear c1 m1
   refine goM ?_
   refine l_newM (cs := zeroSt) T33 rfl fun b6 H10 hM => ?_
   refine l_putM T33 fun H11 hM => ?_
   have c1 := hMay H11 (atF H11 (hM.subG))
   have c2 := sameP_ H11 A (ka.at_ hM) (kb.at_ hM) of
   have hsl := (ka.at_ hM).st.len T31 rfl
   clear hdoP hdoD hMay atF hat p1 p2 p3 p4 p5 hwk g9 g10 di hF
   generalize (A.st.length : Int) = al at *
   by_cases h0 : z = 0
   ·have e0 : (z == 0) = true := by rw [h0]; rfl
    have e1 : (z == 1) = false := by rw [h0]; rfl
    rw [e0, e1, Bool.true_and, Bool.false_and, Bool.or_false] at hlast
    clear h0
    refine goM ?_
    refine l_callG (num_ _ _) ?_
    refine goM ?_
    refine l_callG c1 ?_
    refine goM ?_
    refine l_callG c2 ?_
    refine goM ?_
    exact end_1 (by first | exact .inl rfl | exact .inr rfl) ⟨rfl, hM.pre⟩
   ·have e0 : (z == 0) = false := by simpa using h0
    rw [e0, Bool.false_and, Bool.false_or, Bool.and_eq_true] at hlast
    obtain ⟨e1, e2⟩ := hlast
    clear h0
    refine goM ?_
    refine l_callG (num_ _ _) ?_
    refine goM ?_
    refine l_callG c1 ?_
    refine goM ?_
    refine l_callG c2 ?_
    refine goM ?_
    exact end_1 (by first | exact .inl rfl | exact .inr rfl) ⟨rfl, hM.pre⟩
theorem two_of {α β : Type} {f : α → β} {xs : List α} {a b : β} (h : xs.map f = [a, b]) : ∃ x y, xs = [x, y] ∧ f x = a ∧ f y = b := by
 match xs, h with
 | [x, y], h => simp at h; exact ⟨x, y, rfl, h.1, h.2⟩
def Bad23 (K h : Heap) (b8 b6 : Nat) (q0 : SV) (S : St) : Prop := ∃ (s : St) (u mv ev sv : V) (xs : List MR), StAt h u mv ev sv xs s ∧ s.Fit ∧ doR s 0 = (noSt, 2300) ∧ Mem K h [.box b8 (stC s.c u mv ev sv), .box b6 (q0.c S), q0.own S]
theorem law_stepForms {D : Type} (K : Heap) (vs : List V) (ds : List (DataW D)) (ro : Ro K) (h : RdAll T K [3, 3] vs ds) : ∃ K', Call Tryz.prog 7 vs K (.bool true) K' := by
 obtain ⟨z1, vs, d1, ds, rfl, rfl, hv1, h⟩ := rdAll_cons h
 obtain ⟨z2, vs, d2, ds, rfl, rfl, hv2, h⟩ := rdAll_cons h
 obtain ⟨rfl, rfl⟩ := rdAll_nil h
 obtain ⟨n, rfl, _⟩ := hv1.int T3 rfl
 obtain ⟨x, rfl, _⟩ := hv2.int T3 rfl
 clear hv1 hv2 h
 obtain ⟨y, hy, hy0, hy1⟩ := and_mask x 1023 (by decide) (by decide)
 replace hy : IntKind.i64.wrap ((BitVec.ofInt IntKind.i64.bits x &&& BitVec.ofInt IntKind.i64.bits 1023).toNat : Int) = y := hy
 obtain ⟨y3, hy3, hy30, hy31⟩ := and_mask x 3 (by decide) (by decide)
 replace hy3 : IntKind.i64.wrap ((BitVec.ofInt IntKind.i64.bits x &&& BitVec.ofInt IntKind.i64.bits 3).toNat : Int) = y3 := hy3
 obtain ⟨z, hz, hz0, hz1⟩ := and_mask n 3 (by decide) (by decide)
 replace hz : IntKind.i64.wrap ((BitVec.ofInt IntKind.i64.bits n &&& BitVec.ofInt IntKind.i64.bits 3).toNat : Int) = z := hz
 obtain ⟨o, ho, ho0, ho1⟩ := and_mask n 1 (by decide) (by decide)
 replace ho : IntKind.i64.wrap ((BitVec.ofInt IntKind.i64.bits n &&& BitVec.ofInt IntKind.i64.bits 1).toNat : Int) = o := ho
 obtain ⟨o, rfl⟩ : ∃ j : Nat, o = j := ⟨o.toNat, by omega⟩
 obtain ⟨z, rfl⟩ : ∃ j : Nat, z = j := ⟨z.toNat, by omega⟩
 obtain ⟨y3, rfl⟩ : ∃ j : Nat, y3 = j := ⟨y3.toNat, by omega⟩
 obtain ⟨d, hd⟩ : ∃ d : Int, 1 + y = d := ⟨_, rfl⟩
 have hd1 : IntKind.i64.wrap (1 + y) = d := by rw [hd]; exact wrap_i64 (by omega) (by omega)
 have wd1 : IntKind.i64.wrap (1 + d) = 1 + d := wrap_i64 (by omega) (by omega)
 have wn : IntKind.i64.wrap (0 - d) = -d := by rw [wrap_i64 (by omega) (by omega)]; omega
 have w21 : IntKind.i64.wrap (1021 + (y3 : Int)) = ((1021 + y3 : Nat) : Int) := by rw [wrap_i64 (by omega) (by omega)]; omega
 have hdp : 1 ≤ d := by omega
 obtain ⟨pv, hpv, hpo⟩ : ∃ pv, ([-d, 1 + d] : List Int)[o]? = some pv ∧ (pv < 0 ∨ 2 ≤ pv) := by
  have : o = 0 ∨ o = 1 := by omega
  rcases this with rfl | rfl
  ·exact ⟨_, rfl, .inl (by omega)⟩
  ·exact ⟨_, rfl, .inr (by omega)⟩
 clear hd hy0 hy1
 have hsm := small23_
 have hne : newR smallC = (newS smallC, 0) := by unfold newR; rw [if_pos small_may]
 obtain ⟨hN, hN3, hNf⟩ := pickK_three (p := 0) (by decide)
 have hcf := small_fit
 have hmn : (newS smallC).ms = [(firstK smallC 0, 0), (firstK smallC 1, 1)] := by rw [small_new]
 have hsn : (newS smallC).st = [⟨0, textK (firstK smallC 0), 1⟩, ⟨1, textK (firstK smallC 1), 1⟩] := by rw [small_new]
 have hen : (newS smallC).es = [] := rfl
 have hcn : (newS smallC).c = smallC := rfl
 have hf0 := kFits_fit (firstK_fits small_may 0)
 have hf1 := kFits_fit (firstK_fits small_may 1)
 have fitB : ∀ (c : Cfg) ms es st, c.rows = smallC.rows → (∀ m ∈ ms, m = (firstK smallC 0, (0 : Int)) ∨ m = (firstK smallC 0, 9) ∨ m = (firstK smallC 1, 1)) → ms.length ≤ 2 → es.length ≤ 1024 → st.length ≤ 2 → St.Fit ⟨c, ms, es, st⟩ := fun c ms es st h1 h2 h3 h4 h5 => ⟨⟨by rw [h1]; exact hcf.rows, by rw [h1]; exact hcf.row⟩, by show ms.length * 80 ≤ _; omega, fun m hm => by
  rcases h2 m hm with rfl | rfl | rfl
  ·exact hf0
  ·exact hf0
  ·exact hf1, by show es.length * 48 ≤ _; omega, by show st.length * 32 ≤ _; omega⟩
 have r0 := may_not bad_head 0
 have r1 := may_not bad_cut 0
 have r3 := may_not bad_count 0
 have r2 : doR { newS smallC with es := List.replicate (1021 + y3) ⟨0, 0, 0, 0, 0, 0⟩ } 0 = (noSt, 2300) := no_room (by show 1020 < (List.replicate (1021 + y3) _).length; rw [List.length_replicate]; omega) 0
 have ht1 : doR (newS smallC) pv = (noSt, 2300) := pick_out (by rw [hmn]; exact hpo)
 have ht2 : doR (pickK (newS smallC) ((0 : Nat) : Int) 3) (-d) = (noSt, 2300) := pick_out (.inl (by omega))
 have hz9 : pickK (newS smallC) ((0 : Nat) : Int) 0 = newS smallC := rfl
 refine ⟨K, ?_⟩
 refine call_pure fit mixed Tryz.func7 rfl rfl rfl (by kernel_rfl) rfl fun hM => ?_
 refine wq_seq (wq_line ?_)
 refine goM ?_
 refine l_callG (awake23_ _) ?_
 clear hpo
 generalize newS smallC = S at *
 generalize firstK smallC 0 = K0 at *
 generalize firstK smallC 1 = K1 at *
 generalize textK K0 = t0 at *
 generalize textK K1 = t1 at *
 generalize pickK S ((0 : Nat) : Int) = N at *
 subst hz9
 generalize smallC = c at *
 refine goM ?_
 obtain ⟨_, H2, c1, rv, xv, rfl, m0⟩ := hsm K
 refine l_callG c1 ?_
 obtain ⟨_, H3, c2, q0, rfl, k0, m1⟩ := newQ_ hne H2 rv (rows_of (m0.fact .here)) hcf
 replace hM := hM.grow m0.pre
 clear c1 m0
 refine goM ?_
 refine l_callG c2 ?_
 replace hM := hM.call1 m1
 clear c2 m1 hsm hne
 refine goM ?_
 refine l_newM (cs := zeroSt) T33 rfl fun b6 H4 hM => ?_
 refine l_putM T33 fun H5 hM => ?_
 refine goM ?_
 obtain ⟨_, H6, c1, q1, rfl, k1, m1⟩ := copyP_ H5 (N 0) q0.u q0.mv q0.ev q0.sv q0.xs (k0.at_ hM) (hNf 0 (by decide))
 refine l_callG c1 ?_
 obtain ⟨y1', y2', y3', y4'⟩ := (k1.at_ m1).celled
 replace hM := hM.call1 m1
 clear c1 m1
 refine goM ?_
 refine l_newM (cs := zeroSt) T33 rfl fun b8 H7 hM => ?_
 refine l_putM T33 fun H8 hM => ?_
 have hlk := k1.lk
 have hvl := k1.val
 rw [hmn] at hvl
 rw [hcn] at hlk
 obtain ⟨u, mv, ev, sv, rvs, xs⟩ := q1
 simp only at hlk hvl y1' y2' y3' y4' hM
 obtain ⟨⟨w0, v0, k0', h0⟩, ⟨w1, v1, k1', h1⟩, rfl, hv0, hv1⟩ := two_of hvl
 obtain ⟨e0, rfl⟩ : k0' = K0 ∧ h0 = 0 := by simpa [MR.val] using hv0
 replace e0 := e0.symm
 subst e0
 obtain ⟨e1, rfl⟩ : k1' = K1 ∧ h1 = 1 := by simpa [MR.val] using hv1
 replace e1 := e1.symm
 subst e1
 clear hv0 hv1 hvl
 obtain ⟨xs, hxs⟩ : ∃ xs : List MR, xs = [⟨w0, v0, K0, 0⟩, ⟨w1, v1, K1, 1⟩] := ⟨_, rfl⟩
 rw [← hxs] at hM
 replace hM : Mem K H8 (stOwn u mv ev sv rvs xs (N 0) ++ [.box b8 (stC (N 0).c u mv ev sv), .box b6 (q0.c (N 0)), q0.own (N 0)]) := Mem.unpacked (L := stOwn u mv ev sv rvs xs (N 0)) ((hM.front (r := .ro (pack (stOwn u mv ev sv rvs xs (N 0)))) (by (repeat (first | exact Take.here | apply Take.there)))).sub (by (repeat (first | exact List.Sublist.slnil | exact List.Sublist.refl _ | refine List.Sublist.cons_cons _ ?_ | refine List.Sublist.cons _ ?_))))
 unfold stOwn at hM
 simp only [List.cons_append, List.nil_append] at hM
 rw [hen, hsn, hcn] at hM
 have x0 : xs[0]? = some (⟨w0, v0, K0, 0⟩ : MR) := by rw [hxs]; rfl
 have kts := mems_at (hM.fact (F := pack (mems xs)) (by (repeat (first | exact Has.here | apply Has.there))))
 obtain ⟨bm, om, im, _, _, _⟩ := mr_at (hM.sl (v := mv) (xs := xs) (by (repeat (first | exact Has.here | apply Has.there)))) x0
 have im' : idxV T 29 mv 0 = some (.ptr bm om) := im
 refine goM ?_
 refine wq_meet (fun ρ h => Bad23 K h b8 b6 q0 (N 0) ∧ ρ 0 = .int .i64 n ∧ ρ 5 = .int .i64 d ∧ ρ 6 = .ptr b6 0 ∧ ρ 8 = .ptr b8 0) ?_ ?_
 ·have qs : z = 0 ∨ z = 1 ∨ z = 2 ∨ z = 3 := by omega
  clear hz0 hz1 hy30 ho0 ho1 hpv hdp
  rcases qs with rfl | rfl | rfl | rfl
  ·obtain ⟨H9, st9, hM9⟩ := mr_put hM (u := mv) (ys := xs) (by (repeat (first | exact Has.here | apply Has.there))) x0 im 5 T3 (by decide) (w := .int .i64 9) (y' := ⟨w0, v0, K0, 9⟩) rfl rfl rfl
   have hx9 : xs.set 0 ⟨w0, v0, K0, 9⟩ = [⟨w0, v0, K0, 9⟩, ⟨w1, v1, K1, 1⟩] := by rw [hxs]; rfl
   refine goM ?_
   refine l_stM st9 ?_
   clear hM
   have hM := hM9
   clear hM9 st9
   refine goM ?_
   refine ⟨⟨⟨c, [(K0, 9), (K1, 1)], [], (N 0).st⟩, u, mv, ev, sv, _, ⟨rows_pack (hM.fact (F := pack (rowsR u rvs c.rows)) (by (repeat (first | exact Has.here | apply Has.there)))) hlk, hM.sl (v := mv) (xs := xs.set 0 ⟨w0, v0, K0, 9⟩) (by (repeat (first | exact Has.here | apply Has.there))), by rw [hx9]; rfl, fun m hm => ?_, hM.sl (v := ev) (xs := []) (by (repeat (first | exact Has.here | apply Has.there))), by rw [hsn]; exact hM.sl (v := sv) (by (repeat (first | exact Has.here | apply Has.there)))⟩, fitB _ _ _ _ rfl (by simp) (by simp) (by simp) (by rw [hsn]; simp), ?_, ?_⟩, by simp [put_app, put_none, rho0_app, *]⟩
   ·have hk := mems_at (hM.fact (F := pack (mems xs)) (by (repeat (first | exact Has.here | apply Has.there))))
    rw [hx9] at hm
    simp only [List.mem_cons, List.not_mem_nil, or_false] at hm
    rcases hm with rfl | rfl
    ·exact hk ⟨w0, v0, K0, 0⟩ (by rw [hxs]; simp)
    ·exact hk ⟨w1, v1, K1, 1⟩ (by rw [hxs]; simp)
   ·rw [← r0]; congr 1; rw [← hen, ← hcn]
   ·exact hM.subG
  ·refine goM ?_
   refine l_putM T3 fun H9 hM => ?_
   refine goM ?_
   refine ⟨⟨⟨{ c with cutn := 2 }, (N 0).ms, [], (N 0).st⟩, u, mv, ev, sv, xs, ⟨rows_pack (hM.fact (F := pack (rowsR u rvs c.rows)) (by (repeat (first | exact Has.here | apply Has.there)))) hlk, hM.sl (v := mv) (xs := xs) (by (repeat (first | exact Has.here | apply Has.there))), by rw [hmn, hxs]; rfl, mems_at (hM.fact (F := pack (mems xs)) (by (repeat (first | exact Has.here | apply Has.there)))), hM.sl (v := ev) (xs := []) (by (repeat (first | exact Has.here | apply Has.there))), by rw [hsn]; exact hM.sl (v := sv) (by (repeat (first | exact Has.here | apply Has.there)))⟩, fitB _ _ _ _ rfl (by rw [hmn]; simp) (by rw [hmn]; simp) (by simp) (by rw [hsn]; simp), ?_, ?_⟩, by simp [put_app, put_none, rho0_app, *]⟩
   ·rw [← r1]; congr 1; rw [← hen]
   ·exact hM.subG
  ·refine goM ?_
   refine l_makeM (n := 1021 + y3) (z := (⟨0, 0, 0, 0, 0, 0⟩ : Ev)) 6 evC T30 rfl T61 rfl rfl rfl rfl rfl (by show (48 : Int) * ((1021 + y3 : Nat) : Int) ≤ _ ∧ _; omega) fun ev' H9 hM => ?_
   have y5 := (hM.sl .here).cells
   refine goM ?_
   refine l_putM T30 fun H10 hM => ?_
   refine goM ?_
   refine ⟨⟨⟨c, (N 0).ms, List.replicate (1021 + y3) ⟨0, 0, 0, 0, 0, 0⟩, (N 0).st⟩, u, mv, ev', sv, xs, ⟨rows_pack (hM.fact (F := pack (rowsR u rvs c.rows)) (by (repeat (first | exact Has.here | apply Has.there)))) hlk, hM.sl (v := mv) (xs := xs) (by (repeat (first | exact Has.here | apply Has.there))), by rw [hmn, hxs]; rfl, mems_at (hM.fact (F := pack (mems xs)) (by (repeat (first | exact Has.here | apply Has.there)))), hM.sl .here, by rw [hsn]; exact hM.sl (v := sv) (by (repeat (first | exact Has.here | apply Has.there)))⟩, fitB _ _ _ _ rfl (by rw [hmn]; simp) (by rw [hmn]; simp) (by rw [List.length_replicate]; omega) (by rw [hsn]; simp), ?_, ?_⟩, by simp [put_app, put_none, rho0_app, *]⟩
   ·rw [← r2]; congr 1; rw [← hcn]
   ·exact hM.subG
  ·obtain ⟨be, ie, hput⟩ := hM.elemAt (sz := 3) (R := entC) (v := sv) (xs := [⟨0, t0, 1⟩, ⟨1, t1, 1⟩]) (by (repeat (first | exact Has.here | apply Has.there))) T31 rfl T73 rfl (k := 0) rfl 2 T3 (by decide)
   obtain ⟨H9, st9, hM9⟩ := hput (.int .i64 2) ⟨0, t0, 2⟩ rfl rfl (fun cs hl hR => by rw [hR]; rfl)
   have ie' : idxV T 31 sv 0 = some (.ptr be (0 * 3)) := ie
   clear hput
   refine goM ?_
   refine l_stM st9 ?_
   clear hM
   have hM := hM9
   clear hM9 st9
   refine goM ?_
   refine ⟨⟨⟨c, (N 0).ms, [], [(⟨0, t0, 2⟩ : Ent), (⟨1, t1, 1⟩ : Ent)]⟩, u, mv, ev, sv, xs, ⟨rows_pack (hM.fact (F := pack (rowsR u rvs c.rows)) (by (repeat (first | exact Has.here | apply Has.there)))) hlk, hM.sl (v := mv) (xs := xs) (by (repeat (first | exact Has.here | apply Has.there))), by rw [hmn, hxs]; rfl, mems_at (hM.fact (F := pack (mems xs)) (by (repeat (first | exact Has.here | apply Has.there)))), hM.sl (v := ev) (xs := []) (by (repeat (first | exact Has.here | apply Has.there))), hM.sl (v := sv) (xs := List.set [(⟨0, t0, 1⟩ : Ent), (⟨1, t1, 1⟩ : Ent)] 0 (⟨0, t0, 2⟩ : Ent)) (by (repeat (first | exact Has.here | apply Has.there)))⟩, fitB _ _ _ _ rfl (by rw [hmn]; simp) (by rw [hmn]; simp) (by simp) (by simp), ?_, ?_⟩, by simp [put_app, put_none, rho0_app, *]⟩
   ·rw [← r3]; congr 1; rw [← hen, ← hcn]
   ·exact hM.subG
 ·repeat clear hM
  clear im im' kts r0 r1 r2 r3 fitB hlk y1' y2' y3' y4' hmn hsn hen hcn x0 hxs
  rintro ρ h ⟨⟨s, u, mv, ev, sv, xs, hat, sf, hbad, hM⟩, g0, g5, g6, g8⟩
  obtain ⟨_, H9, c1, qa, rfl, ka, m1⟩ := doP_ hbad h hat sf
  refine goM ?_
  refine l_callG c1 ?_
  replace hM := hM.call1 m1
  clear c1 m1 hat
  refine goM ?_
  refine l_newM (cs := zeroSt) T33 rfl fun b9 H10 hM => ?_
  refine l_putM T33 fun H11 hM => ?_
  replace hM : Mem K H11 [.box b6 (q0.c (N 0)), q0.own (N 0)] := hM.subG
  refine goM ?_
  refine d_sliceM intC [-d, 1 + d] [.int .i64 (-d), .int .i64 (1 + d)] T27 rfl T3 rfl (cells_ints [-d, 1 + d]) (by decide) fun e1 H12 hM => ?_
  obtain ⟨bo, oo, _, ji, rfl, _, jlo, _⟩ := (hM.sl .here).get T27 rfl T3 rfl hpv
  have jl := loadV_one T3 rfl jlo
  obtain ⟨_, H13, c1, qb, rfl, kb, m1⟩ := doP_ ht1 H12 (k0.at_ hM) (hNf 0 (by decide))
  clear jlo
  refine goM ?_
  refine d_callG c1 (.inl m1.pre) ?_
  replace hM := hM.call1 m1
  clear c1 m1 jl ji
  refine goM ?_
  refine d_newM (cs := zeroSt) T33 rfl fun b11 H14 hM => ?_
  refine d_putM T33 fun H15 hM => ?_
  refine goM ?_
  have hM0 : Mem K H15 [.box b6 (q0.c (N 0)), q0.own (N 0)] := hM.subG
  refine wq_loop (fun cc ρ h => ∃ (k : Nat) (q : SV), k ≤ 3 ∧ cc = 3 - k ∧ q.Ok (N k) ∧ Mem K h [.box b6 (q.c (N k)), q.own (N k)] ∧ ρ 5 = .int .i64 d ∧ ρ 6 = .ptr b6 0 ∧ ρ 10 = .int .i64 2300 ∧ ρ 12 = .int .i64 2300 ∧ ρ 13 = .int .i64 (k : Int)) ⟨0, q0, Nat.zero_le _, rfl, k0, hM0, by simp [put_app, put_none, rho0_app, *]⟩ ?_
  repeat clear hM
  clear hM0 k0 g0 g5 g6 g8
  rintro _ ρ h ⟨k, q, hk, rfl, hq, hM, g5, g6, g10, g12, g13⟩
  by_cases hk3 : k < 3
  ·have d1 : decide ((k : Int) < 3) = true := decide_eq_true (by omega)
   have hw := wrap_succ (n := k) (by omega)
   obtain ⟨_, H14, c1, q2, rfl, k2, m1⟩ := doD_ (hN k hk3) h (hq.at_ hM) (hNf k hk)
   refine goM ?_
   refine l_callG c1 ?_
   replace hM := hM.call1 m1
   clear c1 m1
   refine goM ?_
   refine l_newM (cs := zeroSt) T33 rfl fun b10 H15 hM => ?_
   refine l_putM T33 fun H16 hM => ?_
   refine goM ?_
   refine l_putM T33 fun H17 hM => ?_
   refine goM ?_
   exact ⟨3 - (k + 1), by omega, k + 1, q2, hk3, rfl, k2, (((hM.front (r := q2.own (N (k + 1))) (by (repeat (first | exact Take.here | apply Take.there)))).front (r := .box b6 (q2.c (N (k + 1)))) (by (repeat (first | exact Take.here | apply Take.there))))).sub (by (repeat (first | exact List.Sublist.slnil | exact List.Sublist.refl _ | refine List.Sublist.cons_cons _ ?_ | refine List.Sublist.cons _ ?_))), by simp [put_app, put_none, *]⟩
  ·have hke : k = 3 := by omega
   subst hke
   clear hk3 hk
   have d1 : decide (((3 : Nat) : Int) < 3) = false := by decide
   obtain ⟨_, H14, c1, q2, rfl, k2, m1⟩ := doP_ hN3 h (hq.at_ hM) (hNf 3 (by decide))
   refine goM ?_
   refine l_callG c1 ?_
   replace hM := hM.call1 m1
   clear c1 m1
   refine goM ?_
   refine l_newM (cs := zeroSt) T33 rfl fun b12 H15 hM => ?_
   refine l_putM T33 fun H16 hM => ?_
   refine goM ?_
   obtain ⟨_, H17, c1, q3, rfl, k3, m1⟩ := doP_ ht2 H16 (hq.at_ hM) (hNf 3 (by decide))
   refine l_callG c1 ?_
   replace hM := hM.call1 m1
   clear c1 m1
   refine goM ?_
   refine l_newM (cs := zeroSt) T33 rfl fun b14 H18 hM => ?_
   refine l_putM T33 fun H19 hM => ?_
   have c2 := sameP_ H19 noSt (k2.at_ hM) (noSt_at H19) no_fit
   refine goM ?_
   refine l_callG (num_ _ _) ?_
   refine goM ?_
   refine l_callG (num_ _ _) ?_
   refine goM ?_
   refine l_callG c2 ?_
   refine goM ?_
   refine l_callG (num_ _ _) ?_
   refine goM ?_
   refine l_callG (num_ _ _) ?_
   refine goM ?_
   exact end_1 (by first | exact .inl rfl | exact .inr rfl) ⟨rfl, hM.pre⟩
end Go.Proofs.YtaofdhgkgklppaaGreat.VM
