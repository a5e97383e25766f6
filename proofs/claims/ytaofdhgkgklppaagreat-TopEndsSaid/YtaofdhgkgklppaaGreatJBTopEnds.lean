/- Joined texts: RunQ, RunB, TopF. -/
import Derived.Test.YtaofdhgkgklppaaGreatJB1
import Derived.Test.YtaofdhgkgklppaaGreatJB2
import Derived.Test.YtaofdhgkgklppaaGreatJB3
import Derived.Test.YtaofdhgkgklppaaGreatJB4
import Derived.Test.YtaofdhgkgklppaaGreatJB5
import Derived.Test.YtaofdhgkgklppaaGreatJB6
import Derived.Test.YtaofdhgkgklppaaGreatJB7
import Derived.Test.YtaofdhgkgklppaaGreatJB8
import Derived.Test.YtaofdhgkgklppaaGreatJB9
import Derived.Test.YtaofdhgkgklppaaGreatJB10
import Derived.Test.YtaofdhgkgklppaaGreatJB11
import Derived.Test.YtaofdhgkgklppaaGreatJB12
import Derived.Test.YtaofdhgkgklppaaGreatJB13
import Derived.Test.YtaofdhgkgklppaaGreatJBTopAll
namespace Go.Proofs.YtaofdhgkgklppaaGreat.VM
open Go
set_option linter.unusedVariables false
set_option linter.unusedSimpArgs false
attribute [local irreducible] wq wqL wqD wqE wqO Th Bk EndR
set_option maxHeartbeats 8000000
def doneS (s : St) : Bool := s.ms.all fun m => decide (m.1.t = s.c.total)
def doneR (s : St) : Bool × Int := if stateMay s = true then (doneS s, 0) else (false, 2500)
theorem doneR_may {s : St} (h : stateMay s = true) : doneR s = (doneS s, 0) := by unfold doneR; rw [h, if_pos rfl]
theorem doneR_not {s : St} (h : stateMay s = false) : doneR s = (false, 2500) := by unfold doneR; rw [h, if_neg (by decide)]
theorem left_ (H : Heap) (b : Nat) (s : St) (rv mv ev sv : V) (x : MR) (hb : H[b]? = some (.row (stC s.c rv mv ev sv) true)) (hk : KAt H x.w x.v x.k) :
  Call Tryz.prog 115 [.agg (mC x.w x.v x.k x.h), .ptr b 0] H (.bool (!decide (x.k.t = s.c.total))) H := by
 have s1 := hk.ws.cells
 have s2 := hk.vs.cells
 have hl := ld_cell (q := 5) T3 rfl hb (v := .int .i64 s.c.total) rfl
 have hd : (x.k.t != s.c.total) = (!decide (x.k.t = s.c.total)) := by by_cases h : x.k.t = s.c.total <;> simp [h]
 refine call_pure fit mixed Tryz.func115 rfl rfl rfl (by kernel_rfl) rfl fun hM => ?_
 refine wq_seq (wq_line ?_)
 refine l_boxM T51 fun b1 H1 hM => ?_
 have hl1 := loadV_pre hM.pre hl
 clear hl hk hb
 refine goM ?_
 exact end_1 (by first | exact .inl rfl | exact .inr rfl) ⟨rfl, hM.pre⟩
theorem doneP_ (H : Heap) (s : St) (rv mv ev sv : V) (xs : List MR) (ha : StAt H rv mv ev sv xs s) (hf : s.Fit) :
  Call Tryz.prog 43 [.agg (stC s.c rv mv ev sv)] H (.tup [.bool (doneR s).1, .int .i64 (doneR s).2]) H := by
 obtain ⟨z1, z2, z3, z4⟩ := ha.celled
 have l3 := hf.ms
 have hxl := ha.len
 refine call_pure fit mixed Tryz.func43 rfl rfl rfl (by kernel_rfl) rfl fun hM => ?_
 refine wq_seq (wq_line ?_)
 refine l_boxM T33 fun b1 H1 hM => ?_
 have c1 := controlMay_ H1 s rv mv ev sv xs (ha.mono hM.pre) hf
 cases hm : stateMay s with
 | false =>
  rw [hm] at c1
  rw [doneR_not hm]
  clear hm
  refine goM ?_
  refine l_callG c1 ?_
  refine goM ?_
  exact end_2 (by first | exact .inl rfl | exact .inr rfl) ⟨rfl, hM.pre⟩
 | true =>
  rw [hm] at c1
  rw [doneR_may hm]
  have c2 := containsMem_ H1 mv xs 115 [.ptr b1 0] (fun x => !decide (x.k.t = s.c.total)) (ha.ms.mono hM.pre) (by omega) (fun x hx => left_ H1 b1 s rv mv ev sv x (hM.row (by (repeat (first | exact Has.here | apply Has.there)))) ((ha.ks x hx).mono hM.pre))
  have hd : (!(xs.any fun x => !decide (x.k.t = s.c.total))) = doneS s := by
   unfold doneS
   rw [← ha.val, List.all_map, Bool.not_eq_eq_eq_not, List.not_all_eq_any_not]
   rfl
  generalize (xs.any fun x => !decide (x.k.t = s.c.total)) = y at *
  clear hm ha
  refine goM ?_
  refine l_callG c1 ?_
  refine goM ?_
  refine l_callG c2 ?_
  refine goM ?_
  exact end_2 (by first | exact .inl rfl | exact .inr rfl) ⟨rfl, hM.pre⟩
theorem sumT_less : ∀ (ms : List (Chk × Int)) (b : Int), (∀ m ∈ ms, m.1.t ≤ b) → sumT ms < b * ms.length → ∃ (q : Nat) (m : Chk × Int), ms[q]? = some m ∧ m.1.t < b
 | [], b, _, h => by simp [sumT] at h
 | m :: ms, b, hb, h => by
  by_cases hm : m.1.t < b
  ·exact ⟨0, m, rfl, hm⟩
  ·have h1 := hb m List.mem_cons_self
   have e1 : sumT (m :: ms) = m.1.t + sumT ms := rfl
   have e2 : b * ((m :: ms).length : Int) = b * (ms.length : Int) + b := by rw [List.length_cons, Int.natCast_succ, Int.mul_add, Int.mul_one]
   obtain ⟨q, x, hq, hx⟩ := sumT_less ms b (fun x hx => hb x (List.mem_cons_of_mem _ hx)) (by omega)
   exact ⟨q + 1, x, hq, hx⟩
theorem sumT_full : ∀ (ms : List (Chk × Int)) (b : Int), (∀ m ∈ ms, m.1.t ≤ b) → sumT ms = b * ms.length → ∀ m ∈ ms, m.1.t = b
 | [], _, _, _, m, hm => by cases hm
 | x :: ms, b, hb, h, m, hm => by
  have h1 := hb x List.mem_cons_self
  have h2 := sumT_le ms b (fun x hx => hb x (List.mem_cons_of_mem _ hx))
  have e1 : sumT (x :: ms) = x.1.t + sumT ms := rfl
  have e2 : b * ((x :: ms).length : Int) = b * (ms.length : Int) + b := by rw [List.length_cons, Int.natCast_succ, Int.mul_add, Int.mul_one]
  rcases List.mem_cons.1 hm with rfl | hm
  ·omega
  ·exact sumT_full ms b (fun x hx => hb x (List.mem_cons_of_mem _ hx)) (by omega) m hm
def leftL (s : St) : List Int := s.ms.map fun m => s.c.total - m.1.t
theorem leftL_do {s : St} {p : Nat} {o : Chk × Int} (pk : Picks s p o) : leftL (doS s p) = (leftL s).set p (s.c.total - o.1.t - 1) := by
 have ht := (doS_at pk).2
 have e1 : (doS s p).c = s.c := rfl
 have e2 : (doS s p).ms = s.ms.set p (chk2 s p, head2 s p) := rfl
 unfold leftL
 rw [e1, e2, List.map_set]
 congr 1
 show s.c.total - (chk2 s p).t = _
 omega
theorem sumT_do {s : St} {p : Nat} {o : Chk × Int} (pk : Picks s p o) : sumT (doS s p).ms = sumT s.ms + 1 := by
 have ht := (doS_at pk).2
 have e2 : (doS s p).ms = s.ms.set p (chk2 s p, head2 s p) := rfl
 rw [e2, sumT_set _ _ _ _ pk.at_]
 show _ - _ + (chk2 s p).t = _
 omega
theorem sumT_new {c : Cfg} (hc : cfgMay c = true) : sumT (newS c).ms = 0 := by
 have : ∀ ms : List (Chk × Int), (∀ m ∈ ms, m.1.t = 0) → sumT ms = 0 := by
  intro ms
  induction ms with
  | nil => intro _; rfl
  | cons m ms ih => intro h; have h1 := h m List.mem_cons_self; have h2 := ih fun x hx => h x (List.mem_cons_of_mem _ hx); show m.1.t + sumT ms = 0; omega
 refine this _ fun m hm => ?_
 obtain ⟨j, hj⟩ := List.mem_iff_getElem?.1 hm
 have hjl := (List.getElem?_eq_some_iff.1 hj).1
 obtain ⟨o, ho, hok⟩ := new_at hc (p := j) (by have h1 := (stOk_of (newS_may hc)).len; have e : (newS c).c.m = c.m := rfl; omega)
 rw [hj] at ho
 cases ho
 rw [hok]; rfl
theorem next_left {L : List Int} {m p : Nat} (hm : 0 < m) (hp : p < m) (h : ∃ q, q < m ∧ L.getD q 0 ≠ 0) : ∃ d, d < m ∧ L.getD ((p + d) % m) 0 ≠ 0 := by
 obtain ⟨q, hq, hL⟩ := h
 refine ⟨(q + m - p) % m, Nat.mod_lt _ hm, ?_⟩
 have e : (p + (q + m - p) % m) % m = q := by
  rw [Nat.add_mod_mod, show p + (q + m - p) = q + m by omega, Nat.add_mod_right, Nat.mod_eq_of_lt hq]
 rw [e]
 exact hL
theorem wq_meetV {P : Program} {T : Tab} {c : Code} {n : Rho → Heap → Prop} {Q : Exit → Rho → Heap → Prop} {ρ : Rho} {h : Heap} (I : Rho → Heap → Prop) (h1 : wq P T c (Th I fun _ _ _ => False) ρ h) (h2 : ∀ ρ h, I ρ h → n ρ h) : wq P T c (Th n Q) ρ h :=
 wq_mono c (fun x ρ h hx => by
  cases x with
  | normal => simp only [Th] at hx; exact th_normal (h2 ρ h hx)
  | _ => simp only [Th] at hx) h1
theorem law_topEnds {D : Type} (K : Heap) (vs : List V) (ds : List (DataW D)) (ro : Ro K) (h : RdAll T K [26, 27] vs ds) : ∃ K', Call Tryz.prog 12 vs K (.bool true) K' := by
 obtain ⟨v1, vs, d1, ds, rfl, rfl, hv1, h⟩ := rdAll_cons h
 obtain ⟨v2, vs, d2, ds, rfl, rfl, hv2, h⟩ := rdAll_cons h
 obtain ⟨rfl, rfl⟩ := rdAll_nil h
 obtain ⟨c, rv, rfl, hr, cf⟩ := rd_config hv1
 obtain ⟨ps, hps, hpl⟩ := rd_ints hv2
 clear hv1 hv2 h
 replace hpl : ps.length * 8 ≤ 140737488351232 := Nat.le_trans hpl (by decide)
 have l1 := cf.rows
 have l2 := cf.row
 have s3 : rv.cells = [rv] ∧ rv.isTup = false := by obtain ⟨_, h, _⟩ := hr; exact h.cells
 have hlen := hps.len T27 rfl
 obtain ⟨n, hn⟩ : ∃ n, ps.length = n := ⟨_, rfl⟩
 rw [hn] at hlen hpl
 refine ⟨K, ?_⟩
 refine call_pure fit mixed Tryz.func12 rfl rfl rfl (by kernel_rfl) rfl fun hM => ?_
 refine wq_seq (wq_line ?_)
 refine l_boxM T26 fun b2 H1 hM => ?_
 refine goM ?_
 refine l_callG (awakeT_ _) ?_
 have c0 := refConfMay_ H1 c rv (hr.mono hM.pre) (by omega) (fun r hr => by have := l2 r hr; omega)
 cases hc : cfgMay c with
 | false =>
  rw [hc] at c0
  clear hc
  refine goM ?_
  refine l_callG c0 ?_
  refine goM ?_
  exact end_1 (by first | exact .inl rfl | exact .inr rfl) ⟨rfl, hM.pre⟩
 | true =>
  rw [hc] at c0
  have hne := newR_may hc
  have hR := runSt_new hc
  have hs0 := sumT_new hc
  obtain ⟨⟨hm2, hm8⟩, _, _, ⟨hT1, hT2⟩, _⟩ := cfgMay_split hc
  obtain ⟨m, hcm⟩ : ∃ m : Nat, c.m = m := ⟨c.m.toNat, by omega⟩
  obtain ⟨t, hct⟩ : ∃ t : Nat, c.total = t := ⟨c.total.toNat, by omega⟩
  have hm0 : 0 < m := by omega
  have hm9 : m ≤ 8 := by omega
  have ht33 : t ≤ 32 := by omega
  have ht0 : 1 ≤ t := by omega
  obtain ⟨g, hg⟩ : ∃ g, m * t = g := ⟨_, rfl⟩
  have hgl : g ≤ 256 := by rw [← hg]; exact Nat.le_trans (Nat.mul_le_mul hm9 ht33) (by decide)
  have hmul : IntKind.i64.wrap (c.m * c.total) = (g : Int) := by
   rw [hcm, hct, ← hg, ← Int.natCast_mul]
   exact wrap_i64 (by omega) (by omega)
  replace hcm : Held (c.m = m) := hcm
  replace hct : Held (c.total = t) := hct
  clear hm2 hm8 hT1 hT2
  by_cases h60 : (g : Int) > 60
  ·have d60 : decide ((g : Int) > 60) = true := decide_eq_true h60
   clear h60
   refine goM ?_
   refine l_callG c0 ?_
   refine goM ?_
   exact end_1 (by first | exact .inl rfl | exact .inr rfl) ⟨rfl, hM.pre⟩
  ·have d60 : decide ((g : Int) > 60) = false := decide_eq_false h60
   clear h60
   have hcok := hc
   clear hc
   refine goM ?_
   refine l_callG c0 ?_
   clear c0
   refine goM ?_
   obtain ⟨_, H2, c1, q0, rfl, k0, m1⟩ := newQ_ hne H1 rv (hr.mono hM.pre) cf
   refine l_callG c1 ?_
   replace hM := hM.call1 m1
   clear c1 m1 hne
   refine goM ?_
   refine l_newM (cs := zeroSt) T33 rfl fun b5 H3 hM => ?_
   refine l_putM T33 fun H4 hM => ?_
   refine goM ?_
   refine l_makeM (n := m) (z := (0 : Int)) 1 intC T27 rfl T3 rfl rfl rfl hcm hcm (by show (8 : Int) * (m : Int) ≤ _ ∧ _; omega) fun lv H5 hM => ?_
   have hM0 : Mem K H5 [.own 1 intC lv (List.replicate 0 (t : Int) ++ List.replicate (m - 0) 0), .box b5 (q0.c (newS c)), q0.own (newS c), .box b2 (cfgC c rv)] := by
    simp only [List.replicate_zero, List.nil_append, Nat.sub_zero]
    exact hM.subG
   refine goM ?_
   refine wq_meet (fun ρ h => Mem K h [.own 1 intC lv (List.replicate m (t : Int)), .box b5 (q0.c (newS c)), q0.own (newS c), .box b2 (cfgC c rv)] ∧ ρ 1 = v2 ∧ ρ 2 = .ptr b2 0 ∧ ρ 5 = .ptr b5 0 ∧ ρ 6 = .int .i64 0 ∧ ρ 7 = lv) ?_ ?_
   ·refine wq_loop (fun cc ρ h => ∃ (j : Nat), j ≤ m ∧ cc = m - j ∧ Mem K h [.own 1 intC lv (List.replicate j (t : Int) ++ List.replicate (m - j) 0), .box b5 (q0.c (newS c)), q0.own (newS c), .box b2 (cfgC c rv)] ∧ ρ 1 = v2 ∧ ρ 2 = .ptr b2 0 ∧ ρ 5 = .ptr b5 0 ∧ ρ 6 = .int .i64 0 ∧ ρ 7 = lv ∧ ρ 8 = .int .i64 (j : Int)) ⟨0, Nat.zero_le _, rfl, hM0, by simp [put_app, put_none, rho0_app, *]⟩ ?_
    repeat clear hM
    clear hM0
    rintro _ ρ h ⟨j, hj, rfl, hM, g1, g2, g5, g6, g7, g8⟩
    by_cases hj' : j < m
    ·have dj : decide ((j : Int) < c.m) = true := decide_eq_true (by have : c.m = (m : Int) := hcm; omega)
     have hw := wrap_succ (n := j) (by omega)
     obtain ⟨bl, il, hput⟩ := hM.elem (sz := 1) (R := intC) (v := lv) .here T27 rfl T3 rfl (k := j) (by simp; omega)
     obtain ⟨H6, st6, hM6⟩ := hput (.int .i64 (t : Int)) (t : Int) rfl rfl rfl
     have hset : (List.replicate j (t : Int) ++ List.replicate (m - j) 0).set j (t : Int) = List.replicate (j + 1) (t : Int) ++ List.replicate (m - (j + 1)) 0 := by
      rw [List.set_append_right _ _ (by simp), List.length_replicate, Nat.sub_self, show m - j = (m - (j + 1)) + 1 by omega, List.replicate_succ, List.set_cons_zero, List.replicate_succ', List.append_assoc]
      rfl
     rw [hset] at hM6
     have e : c.total = (t : Int) := hct
     clear hput hset hct
     refine goM ?_
     refine l_stM st6 ?_
     clear hM
     refine goM ?_
     exact ⟨m - (j + 1), by omega, j + 1, hj', rfl, hM6, by simp [put_app, put_none, *]⟩
    ·have dj : decide ((j : Int) < c.m) = false := decide_eq_false (by have : c.m = (m : Int) := hcm; omega)
     have hje : j = m := by omega
     subst hje
     rw [Nat.sub_self, List.replicate_zero, List.append_nil] at hM
     refine goM ?_
     exact ⟨hM, by simp [put_app, put_none, *]⟩
   ·repeat clear hM
    clear hM0
    rintro ρ h ⟨hM, g1, g2, g5, g6, g7⟩
    have hL0 : leftL (newS c) = List.replicate m (t : Int) := by
     have hl := (stOk_of (newS_may hcok)).len
     have e1 : (newS c).c.m = c.m := rfl
     have e2 : (newS c).c.total = c.total := rfl
     have e3 : c.m = (m : Int) := hcm
     have e4 : c.total = (t : Int) := hct
     refine List.ext_getElem? fun j => ?_
     unfold leftL
     by_cases hj : j < m
     ·obtain ⟨o, ho, hok⟩ := new_at hcok (p := j) (by omega)
      rw [List.getElem?_map, ho, List.getElem?_replicate, if_pos hj]
      show some (c.total - o.1.t) = _
      rw [hok, e4]
      show some ((t : Int) - 0) = _
      rw [Int.sub_zero]
     ·rw [List.getElem?_eq_none (by rw [List.length_map]; omega), List.getElem?_eq_none (by rw [List.length_replicate]; omega)]
    rw [← hL0] at hM
    have hMs : Mem K h [.own 1 intC lv (leftL (newS c)), .box b5 (q0.c (newS c)), q0.own (newS c), .box b2 (cfgC c rv)] := hM
    clear hL0
    refine goM ?_
    refine wq_meet (fun ρ h => ∃ (s : St) (q : SV), RunSt c s ∧ sumT s.ms = (g : Int) ∧ q.Ok s ∧ Mem K h [.box b5 (q.c s), q.own s, .box b2 (cfgC c rv)] ∧ ρ 2 = .ptr b2 0 ∧ ρ 5 = .ptr b5 0 ∧ ρ 6 = .int .i64 0) ?_ ?_
    ·refine wq_loop (fun cc ρ h => ∃ (i : Nat) (s : St) (q : SV), i ≤ g ∧ cc = g - i ∧ RunSt c s ∧ sumT s.ms = (i : Int) ∧ q.Ok s ∧ Mem K h [.own 1 intC lv (leftL s), .box b5 (q.c s), q.own s, .box b2 (cfgC c rv)] ∧ ρ 1 = v2 ∧ ρ 2 = .ptr b2 0 ∧ ρ 5 = .ptr b5 0 ∧ ρ 6 = .int .i64 0 ∧ ρ 7 = lv ∧ ρ 9 = .int .i64 (i : Int)) ⟨0, newS c, q0, Nat.zero_le _, rfl, hR, hs0, k0, hMs, by simp [put_app, put_none, *]⟩ ?_
     repeat clear hM
     clear hMs hR hs0 k0 g1 g2 g5 g6 g7
     rintro _ ρ h ⟨i, s, q, hi, rfl, hrs, hsum, hq, hM, g1, g2, g5, g6, g7, g9⟩
     have sf := run_fit cf hrs
     by_cases hig : i < g
     ·have dg : decide ((i : Int) < (g : Int)) = true := decide_eq_true (by omega)
      have hwi := wrap_succ (n := i) (by omega)
      refine goM ?_
      refine wq_meetV (fun ρ h => ∃ p0 : Nat, p0 < m ∧ Mem K h [.own 1 intC lv (leftL s), .box b5 (q.c s), q.own s, .box b2 (cfgC c rv)] ∧ ρ 1 = v2 ∧ ρ 2 = .ptr b2 0 ∧ ρ 5 = .ptr b5 0 ∧ ρ 6 = .int .i64 0 ∧ ρ 7 = lv ∧ ρ 9 = .int .i64 (i : Int) ∧ ρ 10 = .int .i64 (p0 : Int)) ?_ ?_
      ·refine cond_go (fun hb => ?_) (fun hb => ?_)
       ·have hin : i < n := by simpa using hb
        clear hb
        obtain ⟨x, hx⟩ : ∃ x, ps[i]? = some x := ⟨ps[i]'(by omega), by simp⟩
        obtain ⟨bo, oo, _, ji, rfl, _, jlo, _⟩ := (hps.mono hM.pre).get T27 rfl T3 rfl hx
        have jl := loadV_one T3 rfl jlo
        have U := modU_spec x (m := c.m) (by have : c.m = (m : Int) := hcm; omega) (by have : c.m = (m : Int) := hcm; omega)
        generalize modU x c.m = p0 at *
        obtain ⟨u1, u2, u3, u4, u5⟩ := U
        have hp0 : p0 < m := by have : c.m = (m : Int) := hcm; omega
        clear u1 hx jlo hin
        refine goM ?_
        exact ⟨p0, hp0, hM, by simp [put_app, put_none, *]⟩
       ·clear hb
        refine goM ?_
        exact ⟨0, hm0, hM, by simp [put_app, put_none, *]⟩
      ·repeat clear hM
       clear g1 g2 g5 g6 g7 g9
       rintro ρ h ⟨p0, hp0, hM, g1, g2, g5, g6, g7, g9, g10⟩
       have hml := run_len hrs
       have hml' : s.ms.length = m := by have : c.m = (m : Int) := hcm; omega
       have hLl : (leftL s).length = m := by unfold leftL; rw [List.length_map]; exact hml'
       have hct' : c.total = (t : Int) := hct
       have htot : ∀ m' ∈ s.ms, m'.1.t ≤ (t : Int) := fun m' hm' => by have := hrs.ok.tot m' hm'; rw [hrs.c, hct'] at this; exact this
       have hsp : ∀ m' ∈ s.ms, 0 ≤ m'.1.t := fun m' hm' => (span_k (hrs.ok.fits m' hm')).1
       have hLat : ∀ (j : Nat) m', s.ms[j]? = some m' → (leftL s)[j]? = some ((t : Int) - m'.1.t) := fun j m' hj => by unfold leftL; rw [List.getElem?_map, hj, hrs.c, hct']; rfl
       obtain ⟨d0, hd0, hLd⟩ : ∃ d, d < m ∧ (leftL s).getD ((p0 + d) % m) 0 ≠ 0 := by
        refine next_left hm0 hp0 ?_
        obtain ⟨q', m', hq', ht'⟩ := sumT_less s.ms t htot (by rw [hsum, hml', ← Int.natCast_mul, Nat.mul_comm, hg]; omega)
        refine ⟨q', by have := (List.getElem?_eq_some_iff.1 hq').1; omega, ?_⟩
        rw [List.getD_eq_getElem?_getD, hLat q' m' hq']
        show (t : Int) - m'.1.t ≠ 0
        omega
       clear hml
       refine goM ?_
       refine wq_meet (fun ρ h => ∃ p : Nat, p < m ∧ (leftL s).getD p 0 ≠ 0 ∧ Mem K h [.own 1 intC lv (leftL s), .box b5 (q.c s), q.own s, .box b2 (cfgC c rv)] ∧ ρ 1 = v2 ∧ ρ 2 = .ptr b2 0 ∧ ρ 5 = .ptr b5 0 ∧ ρ 6 = .int .i64 0 ∧ ρ 7 = lv ∧ ρ 9 = .int .i64 (i : Int) ∧ ρ 10 = .int .i64 (p : Int)) ?_ ?_
       ·refine wq_loop (fun cc ρ h => ∃ p : Nat, p < m ∧ (leftL s).getD ((p + cc) % m) 0 ≠ 0 ∧ Mem K h [.own 1 intC lv (leftL s), .box b5 (q.c s), q.own s, .box b2 (cfgC c rv)] ∧ ρ 1 = v2 ∧ ρ 2 = .ptr b2 0 ∧ ρ 5 = .ptr b5 0 ∧ ρ 6 = .int .i64 0 ∧ ρ 7 = lv ∧ ρ 9 = .int .i64 (i : Int) ∧ ρ 10 = .int .i64 (p : Int)) ⟨p0, hp0, hLd, hM, by simp [put_app, put_none, *]⟩ ?_
        repeat clear hM
        clear g1 g2 g5 g6 g7 g9 g10 hLd
        rintro cc ρ h ⟨p, hp, hLp, hM, g1, g2, g5, g6, g7, g9, g10⟩
        obtain ⟨v, hv⟩ : ∃ v, (leftL s)[p]? = some v := ⟨(leftL s)[p]'(by omega), by simp⟩
        obtain ⟨bl, ol, _, il, rfl, _, llo, _⟩ := (hM.sl .here).get T27 rfl T3 rfl hv
        have ll := loadV_one T3 rfl llo
        have wp := wrap_succ (n := p) (by omega)
        have hcm' : c.m = (m : Int) := hcm
        have htm : ((p : Int) + 1).tmod c.m = (((p + 1) % m : Nat) : Int) := by
         rw [hcm', Int.tmod_eq_emod_of_nonneg (by omega)]
         first | exact (Int.natCast_emod (p + 1) m).symm | exact (Int.natCast_mod (p + 1) m).symm | exact (Int.ofNat_emod (p + 1) m).symm | rfl
        have hnz : (c.m = 0) = False := eq_false (by omega)
        clear hcm' llo
        by_cases hv0 : v = 0
        ·have dv : (v == 0) = true := by rw [hv0]; rfl
         obtain ⟨c', rfl⟩ : ∃ c', cc = c' + 1 := by
          cases cc with
          | zero => rw [Nat.add_zero, Nat.mod_eq_of_lt hp, List.getD_eq_getElem?_getD, hv] at hLp; exact absurd hv0 hLp
          | succ c' => exact ⟨c', rfl⟩
         have hL2 : (leftL s).getD (((p + 1) % m + c') % m) 0 ≠ 0 := by rw [Nat.mod_add_mod, show p + 1 + c' = p + (c' + 1) by omega]; exact hLp
         have hp2 : (p + 1) % m < m := Nat.mod_lt _ hm0
         clear hv0 hLp hv
         refine goM ?_
         exact ⟨c', by omega, (p + 1) % m, hp2, hL2, hM, by simp [put_app, put_none, *]⟩
        ·have dv : (v == 0) = false := by simpa using hv0
         have hL2 : (leftL s).getD p 0 ≠ 0 := by rw [List.getD_eq_getElem?_getD, hv]; exact hv0
         clear hv0 hLp hv
         refine goM ?_
         exact ⟨p, hp, hL2, hM, by simp [put_app, put_none, *]⟩
       ·repeat clear hM
        clear g1 g2 g5 g6 g7 g9 g10 hLd
        rintro ρ h ⟨p, hp, hLp, hM, g1, g2, g5, g6, g7, g9, g10⟩
        obtain ⟨o, ho⟩ : ∃ o, s.ms[p]? = some o := ⟨s.ms[p]'(by omega), by simp⟩
        have hv := hLat p o ho
        have ho1 := htot o (List.mem_of_getElem? ho)
        have ho0 := hsp o (List.mem_of_getElem? ho)
        have hot : o.1.t ≠ (t : Int) := fun e => hLp (by rw [List.getD_eq_getElem?_getD, hv]; show (t : Int) - o.1.t = 0; omega)
        have pk : Picks s p o := ⟨hrs.ok, ho, by rw [hrs.c, hct']; exact hot, runSt_room hrs⟩
        have hrs2 := runSt_do hrs pk
        have hsum2 := sumT_do pk
        have hL2 := leftL_do pk
        rw [hrs.c, hct'] at hL2
        have hd := doR_of pk
        have hdn : doneR s = (false, 0) := by
         rw [doneR_may (of_stOk hrs.ok)]
         congr 1
         unfold doneS
         rw [List.all_eq_false]
         exact ⟨o, List.mem_of_getElem? ho, by rw [hrs.c, hct']; simpa using hot⟩
        obtain ⟨bl, ol, _, il, rfl, _, llo, _⟩ := (hM.sl .here).get T27 rfl T3 rfl hv
        have ll := loadV_one T3 rfl llo
        obtain ⟨bl2, il2, hput⟩ := hM.elem (sz := 1) (R := intC) (v := lv) .here T27 rfl T3 rfl (k := p) (by omega)
        rw [il] at il2
        cases il2
        obtain ⟨H6, st6, hM6⟩ := hput (.int .i64 ((t : Int) - o.1.t - 1)) ((t : Int) - o.1.t - 1) rfl rfl rfl
        rw [← hL2] at hM6
        have wv : IntKind.i64.wrap ((t : Int) - o.1.t - 1) = (t : Int) - o.1.t - 1 := wrap_i64 (by omega) (by omega)
        have c1 := doneP_ H6 s q.u q.mv q.ev q.sv q.xs (hq.at_ hM6) sf
        rw [hdn] at c1
        simp only at c1
        clear hput hv hLp hot pk hL2 hLat ho1 ho0 hct' htot hsp ho hdn
        generalize doS s p = s2 at *
        refine goM ?_
        refine l_stM st6 ?_
        clear hM ll llo
        have hM := hM6
        clear hM6
        refine goM ?_
        refine l_callG c1 ?_
        refine goM ?_
        obtain ⟨_, H7, c2, q2, rfl, k2, m1⟩ := doP_ hd H6 (hq.at_ hM) sf
        refine l_callG c2 ?_
        replace hM := hM.call1 m1
        clear c1 c2 m1 hd
        refine goM ?_
        refine l_newM (cs := zeroSt) T33 rfl fun b13 H8 hM => ?_
        refine l_putM T33 fun H9 hM => ?_
        refine goM ?_
        refine l_callG (num_ _ _) ?_
        refine goM ?_
        refine l_callG (num_ _ _) ?_
        refine goM ?_
        refine l_putM T33 (b := b5) (cs := q.c s) fun H10 hM => ?_
        refine goM ?_
        exact ⟨g - (i + 1), by omega, i + 1, s2, q2, by omega, rfl, hrs2, by rw [hsum2, hsum]; omega, k2, (((hM.front (r := q2.own s2) (by (repeat (first | exact Take.here | apply Take.there)))).front (r := .box b5 (q2.c s2)) (by (repeat (first | exact Take.here | apply Take.there)))).front (r := .own 1 intC lv (leftL s2)) (by (repeat (first | exact Take.here | apply Take.there)))).sub (by (repeat (first | exact List.Sublist.slnil | exact List.Sublist.refl _ | refine List.Sublist.cons_cons _ ?_ | refine List.Sublist.cons _ ?_))), by simp [put_app, put_none, *]⟩
     ·have dg : decide ((i : Int) < (g : Int)) = false := decide_eq_false (by omega)
      have hsum' : sumT s.ms = (g : Int) := by omega
      clear hsum hi hig
      refine goM ?_
      exact ⟨s, q, hrs, hsum', hq, hM.subG, by simp [put_app, put_none, *]⟩
    ·repeat clear hM
     clear hMs hR hs0 k0 g1 g2 g5 g6 g7
     rintro ρ h ⟨s, q, hrs, hsum, hq, hM, g2, g5, g6⟩
     have sf := run_fit cf hrs
     have hml := run_len hrs
     have hml' : s.ms.length = m := by have : c.m = (m : Int) := hcm; omega
     have hct' : c.total = (t : Int) := hct
     have htot : ∀ m' ∈ s.ms, m'.1.t ≤ (t : Int) := fun m' hm' => by have := hrs.ok.tot m' hm'; rw [hrs.c, hct'] at this; exact this
     have hfull := sumT_full s.ms t htot (by rw [hsum, hml', ← Int.natCast_mul, Nat.mul_comm, hg])
     have hdn : doneR s = (true, 0) := by
      rw [doneR_may (of_stOk hrs.ok)]
      congr 1
      unfold doneS
      rw [List.all_eq_true]
      exact fun m' hm' => by rw [hrs.c, hct']; simpa using hfull m' hm'
     have hd : ∀ j : Nat, j < m → doR s j = (noSt, 2301) := fun j hj => by
      obtain ⟨o, ho⟩ : ∃ o, s.ms[j]? = some o := ⟨s.ms[j]'(by omega), by simp⟩
      exact is_done hrs.ok ho (by rw [hrs.c, hct']; exact hfull o (List.mem_of_getElem? ho)) (runSt_room hrs)
     have c1 := doneP_ h s q.u q.mv q.ev q.sv q.xs (hq.at_ hM) sf
     rw [hdn] at c1
     simp only at c1
     clear hfull htot hdn hct' hml hsum
     refine goM ?_
     refine l_callG c1 ?_
     clear c1
     refine goM ?_
     refine wq_loop (fun cc ρ h => ∃ (j : Nat), j ≤ m ∧ cc = m - j ∧ Mem K h [.box b5 (q.c s), q.own s, .box b2 (cfgC c rv)] ∧ ρ 2 = .ptr b2 0 ∧ ρ 5 = .ptr b5 0 ∧ ρ 6 = .int .i64 0 ∧ ρ 15 = .bool true ∧ ρ 16 = .int .i64 0 ∧ ρ 17 = .int .i64 (j : Int)) ⟨0, Nat.zero_le _, rfl, hM, by simp [put_app, put_none, *]⟩ ?_
     repeat clear hM
     clear g2 g5 g6
     rintro _ ρ h ⟨j, hj, rfl, hM, g2, g5, g6, g15, g16, g17⟩
     by_cases hj' : j < m
     ·have dj : decide ((j : Int) < c.m) = true := decide_eq_true (by have : c.m = (m : Int) := hcm; omega)
      have hw := wrap_succ (n := j) (by omega)
      have hdj := hd j hj'
      clear hd
      refine goM ?_
      obtain ⟨_, H7, c2, q2, rfl, k2, m1⟩ := doP_ hdj h (hq.at_ hM) sf
      refine l_callG c2 ?_
      replace hM := hM.call1 m1
      clear c2 m1 hdj
      refine goM ?_
      refine l_newM (cs := zeroSt) T33 rfl fun b13 H8 hM => ?_
      refine l_putM T33 fun H9 hM => ?_
      refine goM ?_
      refine l_callG (num_ _ _) ?_
      refine goM ?_
      exact ⟨m - (j + 1), by omega, j + 1, hj', rfl, hM.subG, by simp [put_app, put_none, *]⟩
     ·have dj : decide ((j : Int) < c.m) = false := decide_eq_false (by have : c.m = (m : Int) := hcm; omega)
      clear hd
      refine goM ?_
      refine l_callG (num_ _ _) ?_
      refine goM ?_
      exact end_1 (by first | exact .inl rfl | exact .inr rfl) ⟨rfl, hM.pre⟩
end Go.Proofs.YtaofdhgkgklppaaGreat.VM
