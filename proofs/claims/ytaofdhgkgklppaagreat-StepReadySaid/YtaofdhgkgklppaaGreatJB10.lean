/- Joined texts: StepT, StepU, RowD, FoldS, FoldT, EvA, EvD, CtlA, StepV, StepA, CtlB, CtlC. -/
import Derived.Test.YtaofdhgkgklppaaGreatJB3
import Derived.Test.YtaofdhgkgklppaaGreatJB6
import Derived.Test.YtaofdhgkgklppaaGreatJB7
import Derived.Test.YtaofdhgkgklppaaGreatJB8
import Derived.Test.YtaofdhgkgklppaaGreatJB9
namespace Go.Proofs.YtaofdhgkgklppaaGreat.VM
open Go
set_option linter.unusedVariables false
set_option linter.unusedSimpArgs false
attribute [local irreducible] wq wqL wqD wqE wqO Th Bk EndR
set_option maxHeartbeats 8000000
def spare (i : Nat) : Ent := ⟨((100 + i : Nat) : Int), strOf [(i : Int)], 0⟩
theorem new_at {c : Cfg} (hc : cfgMay c = true) {p : Nat} (hp : (p : Int) < c.m) : ∃ o, (newS c).ms[p]? = some o ∧ o.1 = firstK c (p : Int) := by
 obtain ⟨hm, _⟩ := cfgMay_split hc
 obtain ⟨n1, n2, _⟩ := (new_ok hc c.m.toNat (by omega)).1
 have hl : p < (newS c).ms.length := by
  show p < (newF c c.m.toNat).1.length
  omega
 exact ⟨_, List.getElem?_eq_getElem hl, n2 p _ (List.getElem?_eq_getElem hl)⟩
theorem pick_out {s : St} {pick : Int} (h : pick < 0 ∨ (s.ms.length : Int) ≤ pick) : doR s pick = (noSt, 2300) := by
 unfold doR
 rw [if_neg (fun hok => ?_)]
 obtain ⟨_, _, p, o, rfl, ho⟩ := doOk_split hok
 have := (List.getElem?_eq_some_iff.1 ho).1
 omega
theorem is_done {s : St} (h : StOk s) {p : Nat} {o : Chk × Int} (ho : s.ms[p]? = some o) (ht : o.1.t = s.c.total) (hl : s.es.length + 4 ≤ 1024) : doR s (p : Int) = (noSt, 2301) := by
 unfold doR
 rw [if_pos (doOk_of h ho hl), if_pos (by rw [Int.toNat_natCast, msAt_some ho]; exact ht)]
theorem small_at (p : Nat) (h : p < 2) : ∃ o, (newS smallC).ms[p]? = some o ∧ o.1.t = 0 := by
 obtain ⟨o, h1, h2⟩ := new_at small_may (p := p) (by show (p : Int) < 2; omega)
 exact ⟨o, h1, by rw [h2]; rfl⟩
def pack (L : List Res) : Fact where
 S c := ∃ r ∈ L, r.lies c
 p H := (∀ r ∈ L, r.ok H) ∧ L.Pairwise fun (r s : Res) => ∀ c : Nat, r.lies c → ¬ s.lies c
 st H H' h hf := ⟨fun r hr => Res.ok_fr (h.1 r hr) fun c hc => hf c ⟨r, hr, hc⟩, h.2⟩
 lt H c h hc := by
  obtain ⟨r, hr, hc⟩ := hc
  exact Res.ok_lt (h.1 r hr) hc
theorem Mem.packed {B H : Heap} {L M : List Res} (h : Mem B H (L ++ M)) : Mem B H (.ro (pack L) :: M) := by
 obtain ⟨s1, s2, s3⟩ := List.pairwise_append.1 h.sep
 refine ⟨h.pre, fun r hr => ?_, fun r hr c hc => ?_, List.pairwise_cons.2 ⟨fun s hs c hc hc2 => ?_, s2⟩⟩
 ·rcases List.mem_cons.1 hr with rfl | hr
  ·exact ⟨fun r hr => h.ok r (List.mem_append_left _ hr), s1⟩
  ·exact h.ok r (List.mem_append_right _ hr)
 ·rcases List.mem_cons.1 hr with rfl | hr
  ·obtain ⟨r, hr, hc⟩ := hc
   exact h.low r (List.mem_append_left _ hr) c hc
  ·exact h.low r (List.mem_append_right _ hr) c hc
 ·obtain ⟨r, hr, hc⟩ := hc
  exact s3 r hr s hs c hc hc2
theorem Mem.unpacked {B H : Heap} {L M : List Res} (h : Mem B H (.ro (pack L) :: M)) : Mem B H (L ++ M) := by
 have h0 : (pack L).p H := h.ok _ List.mem_cons_self
 obtain ⟨s1, s2⟩ := List.pairwise_cons.1 h.sep
 refine ⟨h.pre, fun r hr => ?_, fun r hr c hc => ?_, List.pairwise_append.2 ⟨h0.2, s2, fun r hr s hs c hc hc2 => s1 s hs c ⟨r, hr, hc⟩ hc2⟩⟩
 ·rcases List.mem_append.1 hr with hr | hr
  ·exact h0.1 r hr
  ·exact h.ok r (List.mem_cons_of_mem _ hr)
 ·rcases List.mem_append.1 hr with hr | hr
  ·exact h.low (.ro (pack L)) List.mem_cons_self c ⟨r, hr, hc⟩
  ·exact h.low r (List.mem_cons_of_mem _ hr) c hc
theorem pack_mem {H : Heap} {L : List Res} (h : (pack L).p H) : Mem [] H L := ⟨List.nil_prefix, h.1, fun _ _ _ _ => Nat.zero_le _, h.2⟩
theorem Has.nth : ∀ {L : List Res} {k : Nat} {r : Res}, L[k]? = some r → Has L r (fun x => L.set k x)
 | [], k, r, h => by simp at h
 | s :: L, 0, r, h => by simp at h; subst h; exact .here
 | s :: L, k + 1, r, h => .there (Has.nth (by simpa using h))
theorem Has.app {L M : List Res} {r : Res} {f : Res → List Res} (h : Has L r f) : Has (L ++ M) r (fun x => f x ++ M) := by
 induction h with
 | here => exact .here
 | there h ih => exact .there ih
def rowsP (rv : List (V × Int)) (rs : List (List Int × Int)) : List Res := List.zipWith (fun p r => Res.own 1 intC p.1 r.1) rv rs
def rowsR (u : V) (rv : List (V × Int)) (rs : List (List Int × Int)) : List Res := .own 2 rowC u rv :: rowsP rv rs
def Like (rv : List (V × Int)) (rs : List (List Int × Int)) : Prop := rv.length = rs.length ∧ ∀ (k : Nat) p r, rv[k]? = some p → rs[k]? = some r → p.2 = r.2
theorem rowsP_get {rv : List (V × Int)} {rs : List (List Int × Int)} {k : Nat} {p : V × Int} {r : List Int × Int} (hp : rv[k]? = some p) (hr : rs[k]? = some r) : (rowsP rv rs)[k]? = some (.own 1 intC p.1 r.1) := by
 unfold rowsP
 rw [List.getElem?_zipWith, hp, hr]
theorem rows_pack {H : Heap} {u : V} {rv : List (V × Int)} {rs : List (List Int × Int)} (h : (pack (rowsR u rv rs)).p H) (hl : Like rv rs) : Rows H u rs := by
 have hm := pack_mem h
 refine ⟨rv, hm.sl .here, hl.1, fun k p r hp hr => ⟨hm.sl (.there (Has.nth (rowsP_get hp hr))), hl.2 k p r hp hr⟩⟩
structure Pa where
 w : V
 v : V
 k : Chk
 n : Int
 bad : Bool
def kPart (w v : V) (ws vs : List Int) : Res := .ro (pack [.own 1 intC w ws, .own 1 intC v vs])
def paPart (p : Pa) : Res := kPart p.w p.v p.k.ws p.k.vs
def paths (ps : List Pa) : List Res := ps.map paPart
theorem kPart_at {H : Heap} {w v : V} {k : Chk} (h : (kPart w v k.ws k.vs).ok H) : KAt H w v k := by
 have hm := pack_mem (show (pack [.own 1 intC w k.ws, .own 1 intC v k.vs]).p H from h)
 exact ⟨hm.sl .here, hm.sl (.there .here)⟩
theorem Mem.pack2 {B H : Heap} {r s : Res} {M : List Res} (h : Mem B H (r :: s :: M)) : Mem B H (.ro (pack [r, s]) :: M) := Mem.packed (L := [r, s]) h
theorem Mem.unpack2 {B H : Heap} {r s : Res} {M : List Res} (h : Mem B H (.ro (pack [r, s]) :: M)) : Mem B H (r :: s :: M) := Mem.unpacked (L := [r, s]) h
theorem Mem.repack {B H : Heap} {L M : List Res} {r : Res} (h : Mem B H (.ro (pack L) :: r :: M)) (i : Nat) (hi : i < L.length) : Mem B H (.ro (pack (L.set i r)) :: M) := by
 refine Mem.packed ?_
 have h1 := h.unpacked
 have e : L = L.take i ++ L[i] :: L.drop (i + 1) := by rw [← List.drop_eq_getElem_cons hi, List.take_append_drop]
 have e2 : L.set i r = L.take i ++ r :: L.drop (i + 1) := by rw [List.set_eq_take_append_cons_drop, if_pos hi]
 rw [e2]
 rw [e] at h1
 have h2 : Mem B H (L.take i ++ (L.drop (i + 1) ++ r :: M)) := h1.sub (by
  rw [List.append_assoc]
  exact List.Sublist.append (List.Sublist.refl _) (List.sublist_cons_self _ _))
 refine h2.perm ?_
 rw [List.append_assoc]
 refine List.Perm.append (.refl _) ?_
 exact (List.perm_middle).trans (.refl _)
theorem cloneInts_ (H : Heap) (v : V) (xs : List Int) (hx : Sl 1 intC H v xs) (hl : xs.length * 8 ≤ 2 ^ 47) : ∃ w H', Call Tryz.prog 192 [v] H w H' ∧ Mem H H' [.own 1 intC w xs] := by
 refine call_mem fit mixed Tryz.func192 rfl rfl rfl (by kernel_rfl) fun hM => ?_
 rcases hx with ⟨rfl, rfl⟩ | ⟨b, off, cap, t, cs, wr, rfl, h1, h2, h3, h4⟩
 ·refine goM ?_
  exact end_1 (by first | exact .inl rfl | exact .inr rfl) (hM.nil 1 intC)
 ·have hx : Sl 1 intC H (.slc b off xs.length cap t 1) xs := .inr ⟨b, off, cap, t, cs, wr, rfl, h1, h2, h3, h4⟩
  clear h1 h2 h3 h4
  refine goM ?_
  refine l_sliceM intC [] [] T27 rfl T3 rfl (cells_ints []) (by decide) fun e1 H3 hM => ?_
  refine goM ?_
  refine l_appM (hx.mono hM.pre) (xs := []) (hb := by simp only [List.length_nil]; omega) fun a H4 hM => ?_
  refine goM ?_
  exact end_1 (by first | exact .inl rfl | exact .inr rfl) hM
theorem checkCopy_ (H : Heap) (w v : V) (k : Chk) (hk : KAt H w v k) (hf : k.Fit) : ∃ u H', Call Tryz.prog 140 [.agg (kC w v k)] H u H' ∧ ∃ a b, u = .agg (kC a b k) ∧ Mem H H' [.own 1 intC b k.vs, .own 1 intC a k.ws] := by
 have l1 := hf.ws
 have l2 := hf.vs
 have s1 := hk.ws.cells
 have s2 := hk.vs.cells
 refine call_mem fit mixed Tryz.func140 rfl rfl rfl (by kernel_rfl) fun hM => ?_
 refine wq_seq (wq_line ?_)
 refine l_boxM T45 fun b1 H1 hM => ?_
 refine l_newM (cs := zeroChk) T45 rfl fun b2 H2 hM => ?_
 refine goM ?_
 obtain ⟨a, H3, c1, m1⟩ := cloneInts_ H2 w k.ws (hk.ws.mono hM.pre) (by omega)
 refine d_callG c1 (.inl m1.pre) ?_
 replace hM := hM.call1 m1
 have s3 := (hM.sl .here).cells
 refine goM ?_
 obtain ⟨b, H4, c2, m2⟩ := cloneInts_ H3 v k.vs (hk.vs.mono hM.pre) (by omega)
 refine d_callG c2 (.inl m2.pre) ?_
 replace hM := hM.call1 m2
 have s4 := (hM.sl .here).cells
 clear c1 c2 m1 m2
 refine goM ?_
 refine d_putM T27 fun H5 hM => ?_
 refine goM ?_
 refine d_putM T27 fun H6 hM => ?_
 refine goM ?_
 refine l_putM T45 fun H7 hM => ?_
 refine goM ?_
 exact end_1 (by first | exact .inl rfl | exact .inr rfl) ⟨a, b, rfl, hM.subG⟩
theorem loadN_in {H : Heap} {b o sz : Nat} {cs : List V} (h : H.loadN b o sz = some cs) {j n : Nat} (hj : j + n ≤ sz) : H.loadN b (o + j) n = some ((cs.drop j).take n) := by
 unfold Heap.loadN at h ⊢
 cases hb : H[b]? with
 | none => rw [hb] at h; cases h
 | some k =>
  rw [hb] at h
  cases k with
  | row ds w =>
   simp only at h ⊢
   split at h
   ·rename_i hl
    cases h
    rw [if_pos (by omega), List.drop_take, List.take_take, List.drop_drop, Nat.min_eq_left (by omega)]
   ·cases h
  | _ => cases h
theorem upTo12 (H : Heap) (x a b : Int) : Call Tryz.prog 92 [.int .i64 x, .int .i64 a, .int .i64 b] H (.bool (within x a b)) H := upTo12_ H x a b
theorem hyperMay1 (H : Heap) (r m : Int) : Call Tryz.prog 167 [.agg [.int .i64 r, .int .i64 m]] H (.bool (hyperMay r m)) H := refHyperMay_ H r m
theorem many (H : Heap) (v : V) (es : List Ev) (m : Int) (hes : Sl 6 evC H v es) (hl : es.length ≤ 2 ^ 47) : Call Tryz.prog 24 [v, .int .i64 m] H (.int .i64 (manyOf es m)) H := by
 refine call_plain fit mixed Tryz.func24 rfl rfl rfl (by kernel_rfl) rfl ?_
 have hlen := hes.len T30 rfl
 refine goW ?_
 refine wq_loop (fun c ρ h => ∃ k, k ≤ es.length ∧ c = es.length - k ∧ H <+: h ∧ ρ 0 = v ∧ ρ 1 = .int .i64 m ∧ ρ 8 = v ∧ ρ 9 = .int .i64 es.length ∧ ρ 10 = .int .i64 (k : Nat) ∧ ρ 5 = .int .i64 (manyOf (es.take k) m)) ⟨0, Nat.zero_le _, rfl, List.prefix_refl _, rfl, rfl, rfl, rfl, rfl, rfl⟩ ?_
 rintro _ ρ h ⟨k, hk, rfl, hp, h0, h1, h8, h9, h10, h5⟩
 refine goW ?_
 refine cond_go (fun hb => ?_) (fun hb => ?_)
 ·have hk' : k < es.length := by simpa using hb
  obtain ⟨e, he⟩ : ∃ e, es[k]? = some e := ⟨es[k], by simp [hk']⟩
  obtain ⟨b, o, cs, hi, rfl, _, hlo, hlc⟩ := (hes.mono hp).get T30 rfl T61 rfl he
  have ho := loadV_agg T61 rfl hlo
  have hle := manyOf_le (es.take k) m
  rw [List.length_take] at hle
  have hw := wrap_succ (n := k) (by omega)
  have hw2 := wrap_succ (n := manyOf (es.take k) m) (by omega)
  have hs := manyOf_succ (m := m) he
  refine goW ?_
  refine cond_go (fun hc => ?_) (fun hc => ?_)
  all_goals refine goW ?_
  all_goals refine ⟨es.length - (k + 1), by omega, k + 1, hk', rfl, hp.trans (List.prefix_append ..), ?_⟩
  all_goals simp at hc
  all_goals simp [put_app, put_none, *]
 ·have hk' : k = es.length := by have : ¬ k < es.length := by simpa using hb
                                 omega
  subst hk'
  refine goW ?_
  refine end_ret (by simp only [resRf, resRs, resR]; first | done | rfl) ⟨?_, hp⟩
  simp [put_app, put_none, *]
theorem manyRef (H : Heap) (v : V) (es : List Ev) (m : Int) (hes : Sl 6 evC H v es) (hl : es.length ≤ 2 ^ 47) : Call Tryz.prog 106 [v, .int .i64 m] H (.int .i64 (manyOf es m)) H := by
 refine call_plain fit mixed Tryz.func106 rfl rfl rfl (by kernel_rfl) rfl ?_
 have hlen := hes.len T30 rfl
 refine goW ?_
 refine wq_loop (fun c ρ h => ∃ k, k ≤ es.length ∧ c = es.length - k ∧ h = H ∧ ρ 0 = v ∧ ρ 1 = .int .i64 m ∧ ρ 6 = .int .i64 (k : Nat) ∧ ρ 5 = .int .i64 (manyOf (es.take k) m)) ⟨0, Nat.zero_le _, rfl, rfl, rfl, rfl, rfl, rfl⟩ ?_
 rintro _ ρ h ⟨k, hk, rfl, rfl, h0, h1, h6, h5⟩
 refine goW ?_
 refine cond_go (fun hb => ?_) (fun hb => ?_)
 ·have hk' : k < es.length := by simpa using hb
  obtain ⟨e, he⟩ : ∃ e, es[k]? = some e := ⟨es[k], by simp [hk']⟩
  obtain ⟨b, o, cs, hi, rfl, _, hlo, hlc⟩ := hes.get T30 rfl T61 rfl he
  have ho := loadV_one T3 rfl (hlc 1 _ rfl)
  have hle := manyOf_le (es.take k) m
  rw [List.length_take] at hle
  have hw := wrap_succ (n := k) (by omega)
  have hw2 := wrap_succ (n := manyOf (es.take k) m) (by omega)
  have hs := manyOf_succ (m := m) he
  refine goW ?_
  refine cond_go (fun hc => ?_) (fun hc => ?_)
  all_goals refine goW ?_
  all_goals refine ⟨es.length - (k + 1), by omega, k + 1, hk', rfl, rfl, ?_⟩
  all_goals simp at hc
  all_goals simp [put_app, put_none, *]
 ·have hk' : k = es.length := by have : ¬ k < es.length := by simpa using hb
                                 omega
  subst hk'
  refine goW ?_
  refine end_ret (by simp only [resRf, resRs, resR]; first | done | rfl) ⟨?_, List.prefix_refl _⟩
  simp [put_app, put_none, *]
theorem inside (H : Heap) (b : Nat) (n x : Int) (hb : H.loadN b 0 1 = some [.int .i64 n]) : Call Tryz.prog 144 [.int .i64 x, .ptr b 0] H (.bool (decide (x ≥ 0) && decide (x < n))) H := by
 refine call_plain fit mixed Tryz.func144 rfl rfl rfl (by kernel_rfl) rfl ?_
 have hl : loadV T 3 H b 0 = some (.int .i64 n) := loadV_one T3 rfl hb
 repeat' (first | (refine l_pl ?_; refine l_go ?_) | (refine d_pl ?_; refine d_go ?_) | (refine l_gd ?_; first | refine l_onG ?_ | refine l_offG ?_) | (refine d_gd ?_; first | refine d_onG ?_ | refine d_offG ?_) | refine wq_seq ?_ | refine wq_line ?_ | refine wq_draw (by decide +kernel) ?_ | refine wq_block ?_ | refine l_nil ?_ | refine d_nil ?_ | refine wq_skip ?_ | refine wq_ret ?_ | refine wq_exit ?_ | refine th_normal ?_ | refine th_ret ?_ | refine th_exit ?_ | refine bk_normal ?_ | refine bk_ret ?_ | refine bk_exit ?_ | refine bk_other rfl ?_ | first | refine l_partG (fun hb => ?_) (fun hb => ?_) | refine d_partG (fun hb => ?_) (fun hb => ?_))
 all_goals refine end_finG ?_; simp [put_app, put_none, *]
 all_goals simp_all
 all_goals (first | done | omega)
def TallyC (cs : List V) (es : List Ev) : Prop := cs.length = 16 ∧ ∀ m : Nat, m < 8 → cs[m]? = some (.int .i64 (manyOf es (m : Int))) ∧ cs[8 + m]? = some (.int .i64 (lastKind es (m : Int)))
theorem take_ (H : Heap) (cs : List V) (es : List Ev) (e : Ev) (q : Nat) (b o : Nat) (hq : q < 8) (hm : e.member = (q : Int)) (ht : TallyC cs es) (hl : es.length ≤ 2 ^ 47) (he : ∀ l, (H ++ l).loadN b o 1 = some [.int .i64 e.kind]) (he1 : ∀ l, (H ++ l).loadN b (o + 1) 1 = some [.int .i64 e.member]) :
  ∃ cs', TallyC cs' (es ++ [e]) ∧ Call Tryz.prog 67 [.ptr H.length 0, .ptr b o] (H ++ [.row cs true]) (.tup []) (H ++ [.row cs' true]) := by
 obtain ⟨h1, h2⟩ := ht
 obtain ⟨c1, c2⟩ := h2 q hq
 have hle := manyOf_le es (q : Int)
 have hw := wrap_succ (n := manyOf es (q : Int)) (by omega)
 have x1 : ∀ l, loadV T 3 (H ++ l) b o = some (.int .i64 e.kind) := fun l => loadV_one T3 rfl (he l)
 have x2 : ∀ l, loadV T 3 (H ++ l) b (o + 1) = some (.int .i64 (q : Int)) := fun l => by rw [← hm]; exact loadV_one T3 rfl (he1 l)
 have i1 := arr_idx (b := H.length) (off := 0) T116 rfl T3 rfl hq
 have i2 := arr_idx (b := H.length) (off := 8) T116 rfl T3 rfl hq
 rw [Nat.zero_add] at i1
 have l1 := row_load (H := H) (w := true) T3 rfl c1
 have s1 := row_store (H := H) (v := .int .i64 ((manyOf es (q : Int) : Int) + 1)) (q := q) (cs := cs) T3 rfl rfl rfl (by omega)
 have s2 := row_store (H := H) (v := .int .i64 e.kind) (q := 8 + q) (cs := cs.set q (.int .i64 ((manyOf es (q : Int) : Int) + 1))) T3 rfl rfl rfl (by simp; omega)
 refine ⟨(cs.set q (.int .i64 ((manyOf es (q : Int) : Int) + 1))).set (8 + q) (.int .i64 e.kind), ⟨by simp [h1], fun m hm' => ?_⟩, ?_⟩
 ·obtain ⟨d1, d2⟩ := h2 m hm'
  rw [manyOf_snoc, lastKind_snoc, hm]
  by_cases hmq : q = m
  ·subst hmq
   simp [List.getElem?_set, h1]
   omega
  ·have : ¬ (q : Int) = (m : Int) := by omega
   simp [List.getElem?_set, h1, this, hmq]
   rw [if_neg (by omega), if_neg (by omega), d1, d2]
   exact ⟨rfl, rfl⟩
 ·obtain ⟨v', H', ⟨rfl, rfl⟩, hc⟩ := call_wq (R := fun v h => v = .tup [] ∧ h = H ++ [.row ((cs.set q (.int .i64 ((manyOf es (q : Int) : Int) + 1))).set (8 + q) (.int .i64 e.kind)) true]) (args := [.ptr H.length 0, .ptr b o]) (H := H ++ [.row cs true]) fit mixed Tryz.func67 rfl rfl rfl (by kernel_rfl) (by
   refine goW ?_
   refine end_normal (by simp only [resRf, resRs, resR]; first | done | rfl) ⟨rfl, rfl⟩)
  exact hc
theorem within_lt (x n : Int) : within x 0 (n - 1) = (decide (x ≥ 0) && decide (x < n)) := by
 unfold within
 congr 1
 apply decide_eq_decide.2
 omega
theorem mayT (H : Heap) (cs : List V) (es : List Ev) (e : Ev) (n : Int) (b o : Nat) (hn : 1 ≤ n ∧ n ≤ 8) (ht : TallyC cs es) (hl : es.length ≤ 2 ^ 47)
  (he : ∀ l, (H ++ l).loadN b o 6 = some e.cells) (hf : ∀ l (j : Nat) c, e.cells[j]? = some c → (H ++ l).loadN b (o + j) 1 = some [c]) :
  Call Tryz.prog 66 [.ptr H.length 0, .ptr b o, .int .i64 n] (H ++ [.row cs true]) (.bool (evMay es n e)) (H ++ [.row cs true]) := by
 obtain ⟨h1, h2⟩ := ht
 have x0 : ∀ l, loadV T 3 (H ++ l) b o = some (.int .i64 e.kind) := fun l => loadV_one T3 rfl (hf l 0 _ rfl)
 have x1 : ∀ l, loadV T 3 (H ++ l) b (o + 1) = some (.int .i64 e.member) := fun l => loadV_one T3 rfl (hf l 1 _ rfl)
 have x2 : ∀ l, loadV T 3 (H ++ l) b (o + 2) = some (.int .i64 e.donor) := fun l => loadV_one T3 rfl (hf l 2 _ rfl)
 have x3 : ∀ l, loadV T 3 (H ++ l) b (o + 3) = some (.int .i64 e.at_) := fun l => loadV_one T3 rfl (hf l 3 _ rfl)
 have x5 : ∀ l, loadV T 61 (H ++ l) b o = some (.agg [.int .i64 e.kind, .int .i64 e.member, .int .i64 e.donor, .int .i64 e.at_, .int .i64 e.rate, .int .i64 e.mom]) := fun l => loadV_agg T61 rfl (he l)
 refine call_plain fit mixed Tryz.func66 rfl rfl rfl (by kernel_rfl) rfl ?_
 have hwl : within e.member 0 (n - 1) = (decide (e.member ≥ 0) && decide (e.member < n)) := within_lt ..
 repeat' (first | (refine l_pl ?_; refine l_go ?_) | (refine d_pl ?_; refine d_go ?_) | (refine l_gd ?_; first | refine l_onG ?_ | refine l_offG ?_) | (refine d_gd ?_; first | refine d_onG ?_ | refine d_offG ?_) | refine wq_seq ?_ | refine wq_line ?_ | refine wq_draw (by decide +kernel) ?_ | refine wq_block ?_ | refine l_nil ?_ | refine d_nil ?_ | refine wq_skip ?_ | refine wq_ret ?_ | refine wq_exit ?_ | refine th_normal ?_ | refine th_ret ?_ | refine th_exit ?_ | refine bk_normal ?_ | refine bk_ret ?_ | refine bk_exit ?_ | refine bk_other rfl ?_ | refine l_call (by exact (by simp only [callsWhom, beq_self_eq_true, bne_self_eq_false, ev_tmp, ev_const, ev_func, V.of, V.ofs, put_app, put_none, rho0_app, reduceIte, Nat.reduceEqDiff, reduceCtorEq, List.getD_cons_zero, List.getD_cons_succ, evs, optEv, evParts, Option.map_some, List.cons_append, List.nil_append, List.append_nil, List.append_assoc, Nat.zero_add, Nat.add_zero, *]; first | done | rfl)) (inside _ _ n _ (by first | (simp only [loadN_app, loadN_app0]; first | done | rfl) | (simp only [List.append_assoc, List.cons_append, List.nil_append, List.length_append, List.length_cons, List.length_nil, Nat.zero_add, Nat.add_zero, Nat.reduceAdd, List.set_cons_zero, List.set_cons_succ, loadN_app, loadN_app0]; first | done | rfl))) ?_)
 refine cond_go (fun hb => ?_) (fun hb => ?_)
 ·repeat' (first | (refine l_pl ?_; refine l_go ?_) | (refine d_pl ?_; refine d_go ?_) | (refine l_gd ?_; first | refine l_onG ?_ | refine l_offG ?_) | (refine d_gd ?_; first | refine d_onG ?_ | refine d_offG ?_) | refine wq_seq ?_ | refine wq_line ?_ | refine wq_draw (by decide +kernel) ?_ | refine wq_block ?_ | refine l_nil ?_ | refine d_nil ?_ | refine wq_skip ?_ | refine wq_ret ?_ | refine wq_exit ?_ | refine th_normal ?_ | refine th_ret ?_ | refine th_exit ?_ | refine bk_normal ?_ | refine bk_ret ?_ | refine bk_exit ?_ | refine bk_other rfl ?_)
  refine end_finG ?_; simp [put_app, put_none, *]
  have : within e.member 0 (n - 1) = false := by rw [hwl]; cases h : (decide (e.member ≥ 0) && decide (e.member < n)) <;> simp_all
  simp [evMay, this]
 ·have hin : within e.member 0 (n - 1) = true := by rw [hwl]; simpa using hb
  have hm : 0 ≤ e.member ∧ e.member < n := by simpa [within_lt] using hin
  clear hwl hb
  repeat' (first | (refine l_pl ?_; refine l_go ?_) | (refine d_pl ?_; refine d_go ?_) | (refine l_gd ?_; first | refine l_onG ?_ | refine l_offG ?_) | (refine d_gd ?_; first | refine d_onG ?_ | refine d_offG ?_) | refine wq_seq ?_ | refine wq_line ?_ | refine wq_draw (by decide +kernel) ?_ | refine wq_block ?_ | refine l_nil ?_ | refine d_nil ?_ | refine wq_skip ?_ | refine wq_ret ?_ | refine wq_exit ?_ | refine th_normal ?_ | refine th_ret ?_ | refine th_exit ?_ | refine bk_normal ?_ | refine bk_ret ?_ | refine bk_exit ?_ | refine bk_other rfl ?_)
  refine cond_go (fun hc => ?_) (fun hc => ?_)
  ·simp at hc
   repeat' (first | (refine l_pl ?_; refine l_go ?_) | (refine d_pl ?_; refine d_go ?_) | (refine l_gd ?_; first | refine l_onG ?_ | refine l_offG ?_) | (refine d_gd ?_; first | refine d_onG ?_ | refine d_offG ?_) | refine wq_seq ?_ | refine wq_line ?_ | refine wq_draw (by decide +kernel) ?_ | refine wq_block ?_ | refine l_nil ?_ | refine d_nil ?_ | refine wq_skip ?_ | refine wq_ret ?_ | refine wq_exit ?_ | refine th_normal ?_ | refine th_ret ?_ | refine th_exit ?_ | refine bk_normal ?_ | refine bk_ret ?_ | refine bk_exit ?_ | refine bk_other rfl ?_)
   refine end_finG ?_; simp [put_app, put_none, *]
   rw [evMay_0 hc, hin]
   simp [Bool.and_assoc]
  ·simp at hc
   repeat' (first | (refine l_pl ?_; refine l_go ?_) | (refine d_pl ?_; refine d_go ?_) | (refine l_gd ?_; first | refine l_onG ?_ | refine l_offG ?_) | (refine d_gd ?_; first | refine d_onG ?_ | refine d_offG ?_) | refine wq_seq ?_ | refine wq_line ?_ | refine wq_draw (by decide +kernel) ?_ | refine wq_block ?_ | refine l_nil ?_ | refine d_nil ?_ | refine wq_skip ?_ | refine wq_ret ?_ | refine wq_exit ?_ | refine th_normal ?_ | refine th_ret ?_ | refine th_exit ?_ | refine bk_normal ?_ | refine bk_ret ?_ | refine bk_exit ?_ | refine bk_other rfl ?_)
   refine cond_go (fun hc1 => ?_) (fun hc1 => ?_)
   ·simp at hc1
    repeat' (first | (refine l_pl ?_; refine l_go ?_) | (refine d_pl ?_; refine d_go ?_) | (refine l_gd ?_; first | refine l_onG ?_ | refine l_offG ?_) | (refine d_gd ?_; first | refine d_onG ?_ | refine d_offG ?_) | refine wq_seq ?_ | refine wq_line ?_ | refine wq_draw (by decide +kernel) ?_ | refine wq_block ?_ | refine l_nil ?_ | refine d_nil ?_ | refine wq_skip ?_ | refine wq_ret ?_ | refine wq_exit ?_ | refine th_normal ?_ | refine th_ret ?_ | refine th_exit ?_ | refine bk_normal ?_ | refine bk_ret ?_ | refine bk_exit ?_ | refine bk_other rfl ?_)
    refine wq_late ?_
    repeat (first | refine e_go ?_ | refine e_goL ?_ | refine e_goS ?_ | refine e_nil ?_)
    have hd : (∃ d, idxV T 116 (.ptr H.length 0) e.donor = some (.ptr H.length d) ∧ ∀ l, loadV T 3 (H ++ (.row cs true :: l)) H.length d = some (.int .i64 (manyOf es e.donor))) ∨ ¬ (0 ≤ e.donor ∧ e.donor < n) := by
     by_cases hd : 0 ≤ e.donor ∧ e.donor < n
     ·obtain ⟨d, hde⟩ : ∃ d : Nat, e.donor = (d : Int) := ⟨e.donor.toNat, by omega⟩
      have hd8 : d < 8 := by omega
      have i1 := arr_idx (b := H.length) (off := 0) T116 rfl T3 rfl hd8
      rw [Nat.zero_add] at i1
      exact .inl ⟨d, by rw [hde]; exact i1, fun l => by rw [hde]; exact row_load T3 rfl (h2 d hd8).1 l⟩
     ·exact .inr hd
    have hev := evMay_1 (es := es) (n := n) hc1
    rw [hin, within_lt] at hev
    rcases hd with ⟨d, i1, l1⟩ | hd
    ·repeat' (first | (refine l_pl ?_; refine l_go ?_) | (refine d_pl ?_; refine d_go ?_) | (refine l_gd ?_; first | refine l_onG ?_ | refine l_offG ?_) | (refine d_gd ?_; first | refine d_onG ?_ | refine d_offG ?_) | refine wq_seq ?_ | refine wq_line ?_ | refine wq_draw (by decide +kernel) ?_ | refine wq_block ?_ | refine l_nil ?_ | refine d_nil ?_ | refine wq_skip ?_ | refine wq_ret ?_ | refine wq_exit ?_ | refine th_normal ?_ | refine th_ret ?_ | refine th_exit ?_ | refine bk_normal ?_ | refine bk_ret ?_ | refine bk_exit ?_ | refine bk_other rfl ?_ | refine d_call0 (by exact (by simp only [callsWhom, beq_self_eq_true, bne_self_eq_false, ev_tmp, ev_const, ev_func, V.of, V.ofs, put_app, put_none, rho0_app, reduceIte, Nat.reduceEqDiff, reduceCtorEq, List.getD_cons_zero, List.getD_cons_succ, evs, optEv, evParts, Option.map_some, List.cons_append, List.nil_append, List.append_nil, List.append_assoc, Nat.zero_add, Nat.add_zero, *]; first | done | rfl)) (inside _ _ n _ (by first | (simp only [loadN_app, loadN_app0]; first | done | rfl) | (simp only [List.append_assoc, List.cons_append, List.nil_append, List.length_append, List.length_cons, List.length_nil, Nat.zero_add, Nat.add_zero, Nat.reduceAdd, List.set_cons_zero, List.set_cons_succ, loadN_app, loadN_app0]; first | done | rfl))) ?_ | first | refine l_partG (fun hb => ?_) (fun hb => ?_) | refine d_partG (fun hb => ?_) (fun hb => ?_))
     all_goals refine end_ret (by simp only [resRf, resRs, resR]; first | done | rfl) ⟨?_, by first | exact List.prefix_refl _ | exact List.prefix_append _ _ | assumption | (refine List.IsPrefix.trans (by assumption) (List.prefix_append _ _)) | (simp only [List.append_assoc, List.cons_append, List.nil_append, List.set_cons_zero, List.set_cons_succ]; exact ⟨_, by simp only [List.append_assoc, List.cons_append, List.nil_append]; rfl⟩)⟩
     all_goals (rw [hev]; clear he hf h2 x0 x1 x2 x3 x5; first | (simp [put_app, put_none, *]; done) | (simp_all [put_app, put_none]; done))
    ·have hd' : (decide (e.donor ≥ 0) && decide (e.donor < n)) = false := by
      cases h : (decide (e.donor ≥ 0) && decide (e.donor < n)) with
      | false => rfl
      | true =>
       exfalso
       simp at h
       exact hd ⟨by omega, by omega⟩
     clear hd
     rw [hd'] at hev
     repeat' (first | (refine l_pl ?_; refine l_go ?_) | (refine d_pl ?_; refine d_go ?_) | (refine l_gd ?_; first | refine l_onG ?_ | refine l_offG ?_) | (refine d_gd ?_; first | refine d_onG ?_ | refine d_offG ?_) | refine wq_seq ?_ | refine wq_line ?_ | refine wq_draw (by decide +kernel) ?_ | refine wq_block ?_ | refine l_nil ?_ | refine d_nil ?_ | refine wq_skip ?_ | refine wq_ret ?_ | refine wq_exit ?_ | refine th_normal ?_ | refine th_ret ?_ | refine th_exit ?_ | refine bk_normal ?_ | refine bk_ret ?_ | refine bk_exit ?_ | refine bk_other rfl ?_ | refine d_call0 (by exact (by simp only [callsWhom, beq_self_eq_true, bne_self_eq_false, ev_tmp, ev_const, ev_func, V.of, V.ofs, put_app, put_none, rho0_app, reduceIte, Nat.reduceEqDiff, reduceCtorEq, List.getD_cons_zero, List.getD_cons_succ, evs, optEv, evParts, Option.map_some, List.cons_append, List.nil_append, List.append_nil, List.append_assoc, Nat.zero_add, Nat.add_zero, *]; first | done | rfl)) (inside _ _ n _ (by first | (simp only [loadN_app, loadN_app0]; first | done | rfl) | (simp only [List.append_assoc, List.cons_append, List.nil_append, List.length_append, List.length_cons, List.length_nil, Nat.zero_add, Nat.add_zero, Nat.reduceAdd, List.set_cons_zero, List.set_cons_succ, loadN_app, loadN_app0]; first | done | rfl))) ?_ | first | refine l_partG (fun hb => ?_) (fun hb => ?_) | refine d_partG (fun hb => ?_) (fun hb => ?_))
     all_goals refine end_ret (by simp only [resRf, resRs, resR]; first | done | rfl) ⟨?_, by first | exact List.prefix_refl _ | exact List.prefix_append _ _ | assumption | (refine List.IsPrefix.trans (by assumption) (List.prefix_append _ _)) | (simp only [List.append_assoc, List.cons_append, List.nil_append, List.set_cons_zero, List.set_cons_succ]; exact ⟨_, by simp only [List.append_assoc, List.cons_append, List.nil_append]; rfl⟩)⟩
     all_goals (rw [hev]; clear he hf h2 x0 x1 x2 x3 x5; first | (simp [put_app, put_none, *]; done) | (simp_all [put_app, put_none]; done))
   ·simp at hc1
    repeat' (first | (refine l_pl ?_; refine l_go ?_) | (refine d_pl ?_; refine d_go ?_) | (refine l_gd ?_; first | refine l_onG ?_ | refine l_offG ?_) | (refine d_gd ?_; first | refine d_onG ?_ | refine d_offG ?_) | refine wq_seq ?_ | refine wq_line ?_ | refine wq_draw (by decide +kernel) ?_ | refine wq_block ?_ | refine l_nil ?_ | refine d_nil ?_ | refine wq_skip ?_ | refine wq_ret ?_ | refine wq_exit ?_ | refine th_normal ?_ | refine th_ret ?_ | refine th_exit ?_ | refine bk_normal ?_ | refine bk_ret ?_ | refine bk_exit ?_ | refine bk_other rfl ?_)
    refine cond_go (fun hc2 => ?_) (fun hc2 => ?_)
    ·simp at hc2
     have hev := evMay_2 (es := es) (n := n) hc2
     rw [hin, explored_last] at hev
     obtain ⟨d, i1, i2, l1, l2⟩ : ∃ d, idxV T 116 (.ptr H.length 0) e.member = some (.ptr H.length d) ∧ idxV T 116 (.ptr H.length 8) e.member = some (.ptr H.length (8 + d)) ∧ (∀ l, loadV T 3 (H ++ (.row cs true :: l)) H.length d = some (.int .i64 (manyOf es e.member))) ∧ (∀ l, loadV T 3 (H ++ (.row cs true :: l)) H.length (8 + d) = some (.int .i64 (lastKind es e.member))) := by
      obtain ⟨d, hde⟩ : ∃ d : Nat, e.member = (d : Int) := ⟨e.member.toNat, by omega⟩
      have hd8 : d < 8 := by omega
      have i1 := arr_idx (b := H.length) (off := 0) T116 rfl T3 rfl hd8
      have i2 := arr_idx (b := H.length) (off := 8) T116 rfl T3 rfl hd8
      rw [Nat.zero_add] at i1
      exact ⟨d, by rw [hde]; exact i1, by rw [hde]; exact i2, fun l => by rw [hde]; exact row_load T3 rfl (h2 d hd8).1 l, fun l => by rw [hde]; exact row_load T3 rfl (h2 d hd8).2 l⟩
     have x4 : ∀ l, loadV T 43 (H ++ l) b (o + 4) = some (.agg [.int .i64 e.rate, .int .i64 e.mom]) := fun l => by
      refine loadV_agg T43 rfl ?_
      have h4 := he l
      unfold Heap.loadN at h4 ⊢
      split at h4
      ·rename_i rw_ _ hb
       split at h4
       ·rename_i hle
        simp only [Option.some.injEq] at h4
        rw [if_pos (by omega)]
        have := congrArg (fun l => (l.drop 4).take 2) h4
        simpa [Ev.cells, List.drop_take, List.take_take, List.drop_drop, Nat.add_comm] using this
       ·cases h4
      ·cases h4
     repeat' (first | (refine l_pl ?_; refine l_go ?_) | (refine d_pl ?_; refine d_go ?_) | (refine l_gd ?_; first | refine l_onG ?_ | refine l_offG ?_) | (refine d_gd ?_; first | refine d_onG ?_ | refine d_offG ?_) | refine wq_seq ?_ | refine wq_line ?_ | refine wq_draw (by decide +kernel) ?_ | refine wq_block ?_ | refine l_nil ?_ | refine d_nil ?_ | refine wq_skip ?_ | refine wq_ret ?_ | refine wq_exit ?_ | refine th_normal ?_ | refine th_ret ?_ | refine th_exit ?_ | refine bk_normal ?_ | refine bk_ret ?_ | refine bk_exit ?_ | refine bk_other rfl ?_ | refine d_call0G (hyperMayP ..) ?_ | first | refine l_partG (fun hb => ?_) (fun hb => ?_) | refine d_partG (fun hb => ?_) (fun hb => ?_))
     all_goals refine end_ret (by simp only [resRf, resRs, resR]; first | done | rfl) ⟨?_, by first | exact List.prefix_refl _ | exact List.prefix_append _ _ | assumption | (refine List.IsPrefix.trans (by assumption) (List.prefix_append _ _)) | (simp only [List.append_assoc, List.cons_append, List.nil_append, List.set_cons_zero, List.set_cons_succ]; exact ⟨_, by simp only [List.append_assoc, List.cons_append, List.nil_append]; rfl⟩)⟩
     all_goals (rw [hev]; clear he hf h2 x0 x1 x2 x3 x5; first | (simp [put_app, put_none, *]; done) | (simp_all [put_app, put_none]; done))
    ·simp at hc2
     have hev := evMay_3 (es := es) (n := n) hc hc1 hc2
     repeat' (first | (refine l_pl ?_; refine l_go ?_) | (refine d_pl ?_; refine d_go ?_) | (refine l_gd ?_; first | refine l_onG ?_ | refine l_offG ?_) | (refine d_gd ?_; first | refine d_onG ?_ | refine d_offG ?_) | refine wq_seq ?_ | refine wq_line ?_ | refine wq_draw (by decide +kernel) ?_ | refine wq_block ?_ | refine l_nil ?_ | refine d_nil ?_ | refine wq_skip ?_ | refine wq_ret ?_ | refine wq_exit ?_ | refine th_normal ?_ | refine th_ret ?_ | refine th_exit ?_ | refine bk_normal ?_ | refine bk_ret ?_ | refine bk_exit ?_ | refine bk_other rfl ?_)
     refine end_ret (by simp only [resRf, resRs, resR]; first | done | rfl) ⟨?_, by first | exact List.prefix_refl _ | exact List.prefix_append _ _ | assumption | (refine List.IsPrefix.trans (by assumption) (List.prefix_append _ _)) | (simp only [List.append_assoc, List.cons_append, List.nil_append, List.set_cons_zero, List.set_cons_succ]; exact ⟨_, by simp only [List.append_assoc, List.cons_append, List.nil_append]; rfl⟩)⟩
     rw [hev]
     simp [put_app, put_none, *]
theorem tally0 : TallyC (List.replicate 16 (.int .i64 0)) [] := by
 refine ⟨by simp, fun m hm => ?_⟩
 constructor
 ·rw [List.getElem?_replicate, if_pos (by omega)]; rfl
 ·rw [List.getElem?_replicate, if_pos (by omega)]; rfl
theorem lineageMay (H : Heap) (v : V) (es : List Ev) (n : Int) (hes : Sl 6 evC H v es) (hl : es.length ≤ 2 ^ 47) : Call Tryz.prog 22 [v, .int .i64 n] H (.bool (eventsMay es n)) H := by
 refine call_plain fit mixed Tryz.func22 rfl rfl rfl (by kernel_rfl) rfl ?_
 have hlen := hes.len T30 rfl
 by_cases hbad : within n 1 8 = true ∧ es.length ≤ 1024
 ·obtain ⟨hn, hl'⟩ := hbad
  have hn' := hn
  simp [within] at hn'
  have q1 : decide (n < 1) = false := by simp; omega
  have q2 : decide (n > 8) = false := by simp; omega
  have q3 : decide ((es.length : Int) > 1024) = false := by simp; omega
  repeat (first | (refine l_pl ?_; refine l_go ?_) | (refine d_pl ?_; refine d_go ?_) | (refine l_gd ?_; first | refine l_onG ?_ | refine l_offG ?_) | (refine d_gd ?_; first | refine d_onG ?_ | refine d_offG ?_) | refine wq_seq ?_ | refine wq_line ?_ | refine wq_draw (by decide +kernel) ?_ | refine wq_block ?_ | refine l_nil ?_ | refine d_nil ?_ | refine wq_skip ?_ | refine wq_ret ?_ | refine wq_exit ?_ | refine th_normal ?_ | refine th_ret ?_ | refine th_exit ?_ | refine bk_normal ?_ | refine bk_ret ?_ | refine bk_exit ?_ | refine bk_other rfl ?_)
  refine cond_go (fun hb => ?_) (fun hb => ?_)
  ·cases hb
  ·clear hb
   repeat (first | (refine l_pl ?_; refine l_go ?_) | (refine d_pl ?_; refine d_go ?_) | (refine l_gd ?_; first | refine l_onG ?_ | refine l_offG ?_) | (refine d_gd ?_; first | refine d_onG ?_ | refine d_offG ?_) | refine wq_seq ?_ | refine wq_line ?_ | refine wq_draw (by decide +kernel) ?_ | refine wq_block ?_ | refine l_nil ?_ | refine d_nil ?_ | refine wq_skip ?_ | refine wq_ret ?_ | refine wq_exit ?_ | refine th_normal ?_ | refine th_ret ?_ | refine th_exit ?_ | refine bk_normal ?_ | refine bk_ret ?_ | refine bk_exit ?_ | refine bk_other rfl ?_)
   refine wq_loop (fun c ρ h => ∃ k cs, k ≤ es.length ∧ c = es.length - k ∧ h = H ++ [.row cs true] ∧ TallyC cs (es.take k) ∧ (∀ (j : Nat) e, j < k → es[j]? = some e → evMay (es.take j) n e = true) ∧ ρ 0 = v ∧ ρ 1 = .int .i64 n ∧ ρ 5 = .ptr H.length 0 ∧ ρ 21 = .int .i64 es.length ∧ ρ 22 = .int .i64 (k : Nat)) ⟨0, _, Nat.zero_le _, rfl, rfl, tally0, by intro j e hj; omega, rfl, rfl, rfl, rfl, rfl⟩ ?_
   rintro _ ρ h ⟨k, cs, hk, rfl, rfl, htal, hall, h0, h1, h5, h21, h22⟩
   repeat (first | (refine l_pl ?_; refine l_go ?_) | (refine d_pl ?_; refine d_go ?_) | (refine l_gd ?_; first | refine l_onG ?_ | refine l_offG ?_) | (refine d_gd ?_; first | refine d_onG ?_ | refine d_offG ?_) | refine wq_seq ?_ | refine wq_line ?_ | refine wq_draw (by decide +kernel) ?_ | refine wq_block ?_ | refine l_nil ?_ | refine d_nil ?_ | refine wq_skip ?_ | refine wq_ret ?_ | refine wq_exit ?_ | refine th_normal ?_ | refine th_ret ?_ | refine th_exit ?_ | refine bk_normal ?_ | refine bk_ret ?_ | refine bk_exit ?_ | refine bk_other rfl ?_)
   refine cond_go (fun hb => ?_) (fun hb => ?_)
   ·have hk' : k < es.length := by simp at hb; omega
    clear hb
    obtain ⟨e, he⟩ : ∃ e, es[k]? = some e := ⟨es[k], by simp [hk']⟩
    obtain ⟨b, o, cs', hi, rfl, _, hlo, hlc⟩ := hes.get T30 rfl T61 rfl he
    have hw := wrap_succ (n := k) (by omega)
    have hul : (es.take k).length ≤ 2 ^ 47 := by rw [List.length_take]; omega
    have hmay := mayT H cs (es.take k) e n b o hn' htal hul (fun l => loadN_pre (List.prefix_append H l) hlo) (fun l j c hj => loadN_pre (List.prefix_append H l) (hlc j c hj))
    repeat (first | (refine l_pl ?_; refine l_go ?_) | (refine d_pl ?_; refine d_go ?_) | (refine l_gd ?_; first | refine l_onG ?_ | refine l_offG ?_) | (refine d_gd ?_; first | refine d_onG ?_ | refine d_offG ?_) | refine wq_seq ?_ | refine wq_line ?_ | refine wq_draw (by decide +kernel) ?_ | refine wq_block ?_ | refine l_nil ?_ | refine d_nil ?_ | refine wq_skip ?_ | refine wq_ret ?_ | refine wq_exit ?_ | refine th_normal ?_ | refine th_ret ?_ | refine th_exit ?_ | refine bk_normal ?_ | refine bk_ret ?_ | refine bk_exit ?_ | refine bk_other rfl ?_)
    refine l_callG hmay ?_
    repeat (first | (refine l_pl ?_; refine l_go ?_) | (refine d_pl ?_; refine d_go ?_) | (refine l_gd ?_; first | refine l_onG ?_ | refine l_offG ?_) | (refine d_gd ?_; first | refine d_onG ?_ | refine d_offG ?_) | refine wq_seq ?_ | refine wq_line ?_ | refine wq_draw (by decide +kernel) ?_ | refine wq_block ?_ | refine l_nil ?_ | refine d_nil ?_ | refine wq_skip ?_ | refine wq_ret ?_ | refine wq_exit ?_ | refine th_normal ?_ | refine th_ret ?_ | refine th_exit ?_ | refine bk_normal ?_ | refine bk_ret ?_ | refine bk_exit ?_ | refine bk_other rfl ?_)
    refine cond_go (fun hc => ?_) (fun hc => ?_)
    ·simp at hc
     repeat (first | (refine l_pl ?_; refine l_go ?_) | (refine d_pl ?_; refine d_go ?_) | (refine l_gd ?_; first | refine l_onG ?_ | refine l_offG ?_) | (refine d_gd ?_; first | refine d_onG ?_ | refine d_offG ?_) | refine wq_seq ?_ | refine wq_line ?_ | refine wq_draw (by decide +kernel) ?_ | refine wq_block ?_ | refine l_nil ?_ | refine d_nil ?_ | refine wq_skip ?_ | refine wq_ret ?_ | refine wq_exit ?_ | refine th_normal ?_ | refine th_ret ?_ | refine th_exit ?_ | refine bk_normal ?_ | refine bk_ret ?_ | refine bk_exit ?_ | refine bk_other rfl ?_)
     refine end_ret (by simp only [resRf, resRs, resR]; first | done | rfl) (no_more he (by simp [put_app, put_none, *]) hc (by first | exact List.prefix_refl _ | exact List.prefix_append _ _ | assumption | (refine List.IsPrefix.trans (by assumption) (List.prefix_append _ _)) | (simp only [List.append_assoc, List.cons_append, List.nil_append, List.set_cons_zero, List.set_cons_succ]; exact ⟨_, by simp only [List.append_assoc, List.cons_append, List.nil_append]; rfl⟩)))
    ·simp at hc
     have hm : 0 ≤ e.member ∧ e.member < n := by
      have hx : within e.member 0 (n - 1) = true := by
       unfold evMay at hc
       simp only [Bool.and_eq_true] at hc
       exact hc.1
      simpa [within_lt] using hx
     obtain ⟨q, hq⟩ : ∃ q : Nat, e.member = (q : Int) := ⟨e.member.toNat, by omega⟩
     obtain ⟨cs2, ht2, hcall⟩ := take_ H cs (es.take k) e q b o (by omega) hq htal hul (fun l => loadN_pre (List.prefix_append H l) (hlc 0 _ rfl)) (fun l => loadN_pre (List.prefix_append H l) (hlc 1 _ rfl))
     clear hm hq
     repeat (first | (refine l_pl ?_; refine l_go ?_) | (refine d_pl ?_; refine d_go ?_) | (refine l_gd ?_; first | refine l_onG ?_ | refine l_offG ?_) | (refine d_gd ?_; first | refine d_onG ?_ | refine d_offG ?_) | refine wq_seq ?_ | refine wq_line ?_ | refine wq_draw (by decide +kernel) ?_ | refine wq_block ?_ | refine l_nil ?_ | refine d_nil ?_ | refine wq_skip ?_ | refine wq_ret ?_ | refine wq_exit ?_ | refine th_normal ?_ | refine th_ret ?_ | refine th_exit ?_ | refine bk_normal ?_ | refine bk_ret ?_ | refine bk_exit ?_ | refine bk_other rfl ?_)
     refine l_callG hcall ?_
     repeat (first | (refine l_pl ?_; refine l_go ?_) | (refine d_pl ?_; refine d_go ?_) | (refine l_gd ?_; first | refine l_onG ?_ | refine l_offG ?_) | (refine d_gd ?_; first | refine d_onG ?_ | refine d_offG ?_) | refine wq_seq ?_ | refine wq_line ?_ | refine wq_draw (by decide +kernel) ?_ | refine wq_block ?_ | refine l_nil ?_ | refine d_nil ?_ | refine wq_skip ?_ | refine wq_ret ?_ | refine wq_exit ?_ | refine th_normal ?_ | refine th_ret ?_ | refine th_exit ?_ | refine bk_normal ?_ | refine bk_ret ?_ | refine bk_exit ?_ | refine bk_other rfl ?_)
     refine ⟨es.length - (k + 1), by omega, k + 1, cs2, hk', rfl, rfl, ?_, all_succ hall he hc, ?_⟩
     ·rw [List.take_add_one, he]; exact ht2
     ·simp [put_app, put_none, *]
   ·have hk' : k = es.length := by simp at hb; omega
    subst hk'
    repeat (first | (refine l_pl ?_; refine l_go ?_) | (refine d_pl ?_; refine d_go ?_) | (refine l_gd ?_; first | refine l_onG ?_ | refine l_offG ?_) | (refine d_gd ?_; first | refine d_onG ?_ | refine d_offG ?_) | refine wq_seq ?_ | refine wq_line ?_ | refine wq_draw (by decide +kernel) ?_ | refine wq_block ?_ | refine l_nil ?_ | refine d_nil ?_ | refine wq_skip ?_ | refine wq_ret ?_ | refine wq_exit ?_ | refine th_normal ?_ | refine th_ret ?_ | refine th_exit ?_ | refine bk_normal ?_ | refine bk_ret ?_ | refine bk_exit ?_ | refine bk_other rfl ?_)
    refine end_ret (by simp only [resRf, resRs, resR]; first | done | rfl) ⟨?_, by first | exact List.prefix_refl _ | exact List.prefix_append _ _ | assumption | (refine List.IsPrefix.trans (by assumption) (List.prefix_append _ _)) | (simp only [List.append_assoc, List.cons_append, List.nil_append, List.set_cons_zero, List.set_cons_succ]; exact ⟨_, by simp only [List.append_assoc, List.cons_append, List.nil_append]; rfl⟩)⟩
    rw [eventsMay_yes hn hl' fun j e he => hall j e (List.getElem?_eq_some_iff.1 he).1 he]
    simp [put_app, put_none, *]
 ·have hno : eventsMay es n = false := by
   unfold eventsMay
   cases h1 : within n 1 8 with
   | false => simp
   | true =>
    have : ¬ es.length ≤ 1024 := fun h => hbad ⟨h1, h⟩
    simp [this]
  repeat' (first | (refine l_pl ?_; refine l_go ?_) | (refine d_pl ?_; refine d_go ?_) | (refine l_gd ?_; first | refine l_onG ?_ | refine l_offG ?_) | (refine d_gd ?_; first | refine d_onG ?_ | refine d_offG ?_) | refine wq_seq ?_ | refine wq_line ?_ | refine wq_draw (by decide +kernel) ?_ | refine wq_block ?_ | refine l_nil ?_ | refine d_nil ?_ | refine wq_skip ?_ | refine wq_ret ?_ | refine wq_exit ?_ | refine th_normal ?_ | refine th_ret ?_ | refine th_exit ?_ | refine bk_normal ?_ | refine bk_ret ?_ | refine bk_exit ?_ | refine bk_other rfl ?_ | first | refine l_partG (fun hb => ?_) (fun hb => ?_) | refine d_partG (fun hb => ?_) (fun hb => ?_))
  all_goals refine cond_go (fun hb => ?_) (fun hb => ?_)
  all_goals first
   | (cases hb; done)
   | ((repeat (first | (refine l_pl ?_; refine l_go ?_) | (refine d_pl ?_; refine d_go ?_) | (refine l_gd ?_; first | refine l_onG ?_ | refine l_offG ?_) | (refine d_gd ?_; first | refine d_onG ?_ | refine d_offG ?_) | refine wq_seq ?_ | refine wq_line ?_ | refine wq_draw (by decide +kernel) ?_ | refine wq_block ?_ | refine l_nil ?_ | refine d_nil ?_ | refine wq_skip ?_ | refine wq_ret ?_ | refine wq_exit ?_ | refine th_normal ?_ | refine th_ret ?_ | refine th_exit ?_ | refine bk_normal ?_ | refine bk_ret ?_ | refine bk_exit ?_ | refine bk_other rfl ?_)); refine end_ret (by simp only [resRf, resRs, resR]; first | done | rfl) ⟨?_, by first | exact List.prefix_refl _ | exact List.prefix_append _ _ | assumption | (refine List.IsPrefix.trans (by assumption) (List.prefix_append _ _)) | (simp only [List.append_assoc, List.cons_append, List.nil_append, List.set_cons_zero, List.set_cons_succ]; exact ⟨_, by simp only [List.append_assoc, List.cons_append, List.nil_append]; rfl⟩)⟩; simp [put_app, put_none, hno]; done)
   | (exfalso; apply hbad; clear hno hbad hlen; simp_all [within]; done)
   | (exfalso; apply hbad; clear hno hbad hlen; simp_all [within]; omega)
structure MR where
 w : V
 v : V
 k : Chk
 h : Int
def MR.val (x : MR) : Chk × Int := (x.k, x.h)
def mrC (cs : List V) (x : MR) : Prop := cs = mC x.w x.v x.k x.h
abbrev stC (c : Cfg) (rv mv ev sv : V) : List V := [.int .i64 c.m, .int .i64 c.i, .int .i64 c.h, rv, .int .i64 c.seed, .int .i64 c.total, .int .i64 c.interval, .int .i64 c.cutn, .bool c.pert, mv, ev, sv]
abbrev zeroSt : List V := [.int .i64 0, .int .i64 0, .int .i64 0, .nils, .int .i64 0, .int .i64 0, .int .i64 0, .int .i64 0, .bool false, .nils, .nils, .nils]
theorem cells_mrs (xs : List MR) : Cells 6 mrC (xs.flatMap fun x => mC x.w x.v x.k x.h) xs := cells_of (R := mrC) (fun x => mC x.w x.v x.k x.h) (fun x => ⟨rfl, rfl⟩) xs
structure StAt (H : Heap) (rv mv ev sv : V) (xs : List MR) (s : St) : Prop where
 rows : Rows H rv s.c.rows
 ms : Sl 6 mrC H mv xs
 val : xs.map MR.val = s.ms
 ks : ∀ x ∈ xs, KAt H x.w x.v x.k
 es : Sl 6 evC H ev s.es
 st : Sl 3 entC H sv s.st
theorem StAt.mono {H H' : Heap} (hp : H <+: H') {rv mv ev sv : V} {xs : List MR} {s : St} (h : StAt H rv mv ev sv xs s) : StAt H' rv mv ev sv xs s :=
 ⟨h.rows.mono hp, h.ms.mono hp, h.val, fun x hx => (h.ks x hx).mono hp, h.es.mono hp, h.st.mono hp⟩
structure St.Fit (s : St) : Prop where
 c : s.c.Fit
 ms : s.ms.length * 80 ≤ 140737488351232
 k : ∀ m ∈ s.ms, m.1.Fit
 es : s.es.length * 48 ≤ 140737488351232
 st : s.st.length * 32 ≤ 140737488351232
theorem mr_at {H : Heap} {v : V} {xs : List MR} (h : Sl 6 mrC H v xs) {j : Nat} {x : MR} (hx : xs[j]? = some x) :
  ∃ b o, idxV T 29 v (j : Int) = some (.ptr b o) ∧ loadV T 51 H b o = some (.agg (mC x.w x.v x.k x.h)) ∧ loadV T 45 H b o = some (.agg (kC x.w x.v x.k)) ∧ loadV T 3 H b (o + 5) = some (.int .i64 x.h) := by
 obtain ⟨b, o, cs, hi, hc, _, hlo, hlc⟩ := h.get T29 rfl T51 rfl hx
 rw [hc] at hlo hlc
 exact ⟨b, o, hi, loadV_agg T51 rfl hlo, loadV_agg T45 rfl (loadN_in (j := 0) (n := 5) hlo (by decide)), loadV_one T3 rfl (hlc 5 _ rfl)⟩
def idxM {α : Type} (es : List α) (p : α → Bool) : Int := if es.findIdx p < es.length then (es.findIdx p : Int) else -1
theorem idxM_any {α : Type} (es : List α) (p : α → Bool) : decide (idxM es p ≥ 0) = es.any p := by
 unfold idxM
 by_cases h : es.findIdx p < es.length
 ·rw [if_pos h, decide_eq_true (by omega)]
  symm
  rw [List.any_eq_true]
  exact ⟨_, List.getElem_mem h, List.findIdx_getElem⟩
 ·rw [if_neg h]
  have h2 : es.findIdx p = es.length := by have := List.findIdx_le_length (xs := es) (p := p); omega
  symm
  show es.any p = false
  rw [List.any_eq_false]
  intro x hx
  obtain ⟨i, hi, rfl⟩ := List.mem_iff_getElem.1 hx
  have := List.not_of_lt_findIdx (xs := es) (p := p) (i := i) (by omega)
  simpa using this
theorem indexMem_ (H : Heap) (v : V) (es : List MR) (g : Nat) (caps : List V) (p : MR → Bool) (hx : Sl 6 mrC H v es) (hl : es.length ≤ 2 ^ 47) (hg : ∀ e ∈ es, Call Tryz.prog g (.agg (mC e.w e.v e.k e.h) :: caps) H (.bool (p e)) H) :
  Call Tryz.prog 150 [v, .fn g caps] H (.int .i64 (idxM es p)) H := by
 refine call_pure fit mixed Tryz.func150 rfl rfl rfl (by kernel_rfl) rfl fun hM => ?_
 obtain ⟨n, hn⟩ : ∃ n, es.length = n := ⟨_, rfl⟩
 have hlen := hx.len T29 rfl
 rw [hn] at hlen
 obtain ⟨k0, hk0⟩ : ∃ k, es.findIdx p = k := ⟨_, rfl⟩
 have hkn : k0 ≤ n := by rw [← hk0, ← hn]; exact List.findIdx_le_length
 have hres : idxM es p = if k0 < n then (k0 : Int) else -1 := by unfold idxM; rw [hk0, hn]
 refine goM ?_
 refine wq_loop (fun c ρ h => ∃ k, k ≤ k0 ∧ c = n - k ∧ h = H ∧ ρ 0 = v ∧ ρ 1 = .fn g caps ∧ ρ 7 = .int .i64 (n : Int) ∧ ρ 8 = .int .i64 (k : Int)) ⟨0, Nat.zero_le _, rfl, rfl, rfl, rfl, rfl, rfl⟩ ?_
 clear hM
 rintro _ ρ h ⟨k, hk, rfl, rfl, h0, h1, h7, h8⟩
 refine goM ?_
 refine cond_go (fun hb => ?_) (fun hb => ?_)
 ·have hk' : k < n := by simpa using hb
  clear hb
  obtain ⟨e, he⟩ : ∃ e, es[k]? = some e := ⟨es[k]'(by omega), by simp⟩
  obtain ⟨b, o, hi, hlo, _⟩ := mr_at hx he
  have hw := wrap_succ (n := k) (by omega)
  have c1 := hg e (List.mem_of_getElem? he)
  have hpe : p e = decide (k = k0) := by
   have hkl : k < es.length := by omega
   have hek : es[k] = e := by rw [List.getElem?_eq_getElem hkl] at he; exact Option.some.inj he
   by_cases hkk : k < k0
   ·have := List.not_of_lt_findIdx (xs := es) (p := p) (i := k) (by omega)
    rw [hek] at this
    rw [this]; exact (decide_eq_false (by omega)).symm
   ·obtain rfl : k = k0 := by omega
    have := List.findIdx_getElem (xs := es) (p := p) (w := by omega)
    rw [decide_eq_true rfl, ← hek]
    simpa [hk0] using this
  rw [hpe] at c1
  clear he hpe hlen
  by_cases hkk : k = k0
  ·rw [decide_eq_true hkk] at c1
   rw [if_pos (by omega), ← hkk] at hres
   rw [hres]
   clear hres hk0 hkk hk hkn
   refine goM ?_
   refine l_callG c1 ?_
   refine goM ?_
   exact end_1 (by first | exact .inl rfl | exact .inr rfl) ⟨rfl, List.prefix_refl _⟩
  ·rw [decide_eq_false hkk] at c1
   have hk1 : k + 1 ≤ k0 := by omega
   clear hres hk0 hkk
   refine goM ?_
   refine l_callG c1 ?_
   refine goM ?_
   exact ⟨n - (k + 1), by omega, k + 1, hk1, rfl, rfl, by simp [put_app, put_none, *]⟩
 ·have hk' : k = n := by have : ¬ k < n := by simpa using hb
                         omega
  clear hb
  rw [if_neg (by omega)] at hres
  rw [hres]
  clear hres hk0
  refine goM ?_
  exact end_1 (by first | exact .inl rfl | exact .inr rfl) ⟨rfl, List.prefix_refl _⟩
theorem containsMem_ (H : Heap) (v : V) (es : List MR) (g : Nat) (caps : List V) (p : MR → Bool) (hx : Sl 6 mrC H v es) (hl : es.length ≤ 2 ^ 47) (hg : ∀ e ∈ es, Call Tryz.prog g (.agg (mC e.w e.v e.k e.h) :: caps) H (.bool (p e)) H) :
  Call Tryz.prog 75 [v, .fn g caps] H (.bool (es.any p)) H := by
 refine call_pure fit mixed Tryz.func75 rfl rfl rfl (by kernel_rfl) rfl fun hM => ?_
 have c1 := indexMem_ H v es g caps p hx hl hg
 have h1 := idxM_any es p
 generalize idxM es p = z at *
 refine goM ?_
 refine l_callG c1 ?_
 refine goM ?_
 exact end_1 (by first | exact .inl rfl | exact .inr rfl) ⟨rfl, List.prefix_refl _⟩
theorem containsEnt_ (H : Heap) (v : V) (es : List Ent) (g : Nat) (caps : List V) (p : Ent → Bool) (hx : Sl 3 entC H v es) (hl : es.length ≤ 2 ^ 47) (hg : ∀ e ∈ es, Call Tryz.prog g (.agg (entV e) :: caps) H (.bool (p e)) H) :
  Call Tryz.prog 154 [v, .fn g caps] H (.bool (es.any p)) H := by
 refine call_pure fit mixed Tryz.func154 rfl rfl rfl (by kernel_rfl) rfl fun hM => ?_
 have c1 := indexEnt_ H v es g caps p hx hl hg
 have h1 : decide (idxR es p ≥ 0) = es.any p := idxM_any es p
 generalize idxR es p = z at *
 refine goM ?_
 refine l_callG c1 ?_
 refine goM ?_
 exact end_1 (by first | exact .inl rfl | exact .inr rfl) ⟨rfl, List.prefix_refl _⟩
theorem memFitsL_ (H : Heap) (cb co kb ko : Nat) (c : Cfg) (w v : V) (k : Chk) (l1 : loadV T 23 H cb (co + 1) = some (.agg [.int .i64 c.i, .int .i64 c.h])) (l0 : loadV T 45 H kb ko = some (.agg (kC w v k))) (l2 : loadV T 27 H kb ko = some w) (hk : KAt H w v k) (hf : k.Fit) :
  Call Tryz.prog 74 [.ptr cb co, .ptr kb ko] H (.bool (kFits c k)) H := by
 refine call_pure fit mixed Tryz.func74 rfl rfl rfl (by kernel_rfl) rfl fun hM => ?_
 have f1 := hf.ws
 have f2 := hf.vs
 have c1 := chkMay_ H w v k.ws k.vs k.r k.m k.t hk.ws hk.vs (by omega) (by omega)
 have c2 := shapeFits_ H c.i c.h w k.ws hk.ws (by omega)
 unfold kFits memFits
 obtain ⟨r1, e1⟩ : ∃ q, chkMay k.ws k.vs k.r k.m k.t = q := ⟨_, rfl⟩
 rw [e1] at c1 ⊢
 clear e1 hk hf f1 f2
 cases r1
 ·refine goM ?_
  refine d_call0G c1 ?_
  refine goM ?_
  exact end_1 (by first | exact .inl rfl | exact .inr rfl) ⟨rfl, hM.pre⟩
 ·refine goM ?_
  refine d_call0G c1 ?_
  refine goM ?_
  refine d_call0G c2 ?_
  refine goM ?_
  exact end_1 (by first | exact .inl rfl | exact .inr rfl) ⟨rfl, hM.pre⟩
theorem odd_ (H : Heap) (b cb co : Nat) (c : Cfg) (x : MR) (hb : H[b]? = some (.row [.ptr cb co] true)) (l1 : loadV T 23 H cb (co + 1) = some (.agg [.int .i64 c.i, .int .i64 c.h])) (l5 : loadV T 3 H cb (co + 5) = some (.int .i64 c.total)) (hk : KAt H x.w x.v x.k) (hf : x.k.Fit) :
  Call Tryz.prog 73 [.agg (mC x.w x.v x.k x.h), .ptr b 0] H (.bool (!(memOk c x.val))) H := by
 have s1 := hk.ws.cells
 have s2 := hk.vs.cells
 have hl0 : loadV T 108 H b 0 = some (.ptr cb co) := ld_cell T108 rfl hb rfl
 refine call_pure fit mixed Tryz.func73 rfl rfl rfl (by kernel_rfl) rfl fun hM => ?_
 refine wq_seq (wq_line ?_)
 refine l_boxM T51 fun b1 H1 hM => ?_
 have c1 := memFitsL_ H1 cb co b1 0 c x.w x.v x.k (loadV_pre hM.pre l1) (hM.ldA .here T45 rfl (by show 0 + 5 ≤ 6; decide) rfl) (hM.ld .here T27 rfl rfl) (hk.mono hM.pre) hf
 have hl := loadV_pre hM.pre hl0
 have l5' := loadV_pre hM.pre l5
 clear hl0 l1 l5 hb hk hf
 unfold memOk MR.val
 simp only
 obtain ⟨q, hq⟩ : ∃ q, kFits c x.k = q := ⟨_, rfl⟩
 rw [hq] at c1 ⊢
 have hd : (!decide (x.k.t ≤ c.total)) = decide (x.k.t > c.total) := by
  by_cases h : x.k.t ≤ c.total
  ·rw [decide_eq_true h, decide_eq_false (by omega)]; rfl
  ·rw [decide_eq_false h, decide_eq_true (by omega)]; rfl
 clear hq
 cases q
 ·refine goM ?_
  refine d_call0G c1 ?_
  refine goM ?_
  exact end_1 (by first | exact .inl rfl | exact .inr rfl) ⟨rfl, hM.pre⟩
 ·rw [Bool.true_and, hd]
  clear hd
  refine goM ?_
  refine d_call0G c1 ?_
  refine goM ?_
  exact end_1 (by first | exact .inl rfl | exact .inr rfl) ⟨rfl, hM.pre⟩
theorem ok_fit {s : St} (h : StOk s) (hc : s.c.Fit) : s.Fit := by
 obtain ⟨h2, _⟩ := cfgMay_split h.c
 have hl := h.len
 have h3 := (events_all h.es).2.1
 have h4 := h.st.len
 exact ⟨hc, by omega, fun m hm => kFits_fit (h.fits m hm), by omega, by omega⟩
theorem do_fit {s : St} {p : Nat} {o : Chk × Int} (h : Picks s p o) (hf : s.Fit) : (doS s p).Fit := ok_fit (stOk_of (do_turned h).may) hf.c
theorem no_fit : noSt.Fit := ⟨⟨by simp [noSt, noCfg], by simp [noSt, noCfg]⟩, by simp [noSt], by simp [noSt], by simp [noSt], by simp [noSt]⟩
theorem turned_ (H : Heap) (x : Int) (dn : Bool) : Call Tryz.prog 223 [.int .i64 x, .bool dn] H (.int .i64 (turnP x dn)) H := by
 refine call_pure fit mixed Tryz.func223 rfl rfl rfl (by kernel_rfl) rfl fun hM => ?_
 have c1 := fixTimes_ H x 52429
 have c2 := fixTimes_ H x 81920
 unfold turnP
 cases dn
 ·refine goM ?_
  refine l_callG c2 ?_
  refine goM ?_
  exact end_1 (by first | exact .inl rfl | exact .inr rfl) ⟨rfl, hM.pre⟩
 ·refine goM ?_
  refine l_callG c1 ?_
  refine goM ?_
  exact end_1 (by first | exact .inl rfl | exact .inr rfl) ⟨rfl, hM.pre⟩
theorem rem_two (b : Nat) : ((b : Int).tmod 2 == 1) = (b % 2 == 1) := by
 rw [Int.tmod_eq_emod_of_nonneg (by omega)]
 by_cases h : b % 2 = 1
 ·rw [show ((b : Int) % 2) = 1 by omega, h]; rfl
 ·have : b % 2 = 0 := by omega
  rw [show ((b : Int) % 2) = 0 by omega, this]; rfl
theorem perturb_ (H : Heap) (r m : Int) (b : Nat) (hy : hyperMay r m = true) (hb : b < 4) : Call Tryz.prog 203 [.agg [.int .i64 r, .int .i64 m], .int .i64 b] H (.tup [.agg [.int .i64 (pertR r m b).1, .int .i64 (pertR r m b).2], .int .i64 0]) H := by
 refine call_pure fit mixed Tryz.func203 rfl rfl rfl (by kernel_rfl) rfl fun hM => ?_
 refine wq_seq (wq_line ?_)
 refine l_boxM T43 fun b1 H1 hM => ?_
 refine l_newM (cs := [.int .i64 0, .int .i64 0]) T43 rfl fun b2 H2 hM => ?_
 have c0 := hyperMayP H2 r m
 rw [hy] at c0
 have g1 : decide ((b : Int) < 0) = false := decide_eq_false (by omega)
 have g2 : decide ((b : Int) > 3) = false := decide_eq_false (by omega)
 have e1 := rem_two b
 have e2 : decide ((b : Int) ≥ 2) = decide (2 ≤ b) := by
  by_cases h : 2 ≤ b
  ·rw [decide_eq_true h, decide_eq_true (by omega)]
  ·rw [decide_eq_false h, decide_eq_false (by omega)]
 clear hy hb
 unfold pertR
 have c1 := turned_ H2 r (b % 2 == 1)
 have c2 := turned_ H2 m (decide (2 ≤ b))
 generalize (b % 2 == 1) = d1 at *
 generalize decide (2 ≤ b) = d2 at *
 generalize turnP r d1 = x1 at *
 generalize turnP m d2 = x2 at *
 have q1 : (if x1 > 64 then x1 else 64) = max 64 x1 := by omega
 have q2 : (if max 64 x1 < 16384 then max 64 x1 else 16384) = min 16384 (max 64 x1) := by omega
 have q3 : (if x2 > 0 then x2 else 0) = max 0 x2 := by omega
 have q4 : (if max 0 x2 < 58982 then max 0 x2 else 58982) = min 58982 (max 0 x2) := by omega
 refine goM ?_
 refine l_callG c0 ?_
 refine goM ?_
 refine d_call0G c1 ?_
 refine goM ?_
 refine d_call0G c2 ?_
 refine goM ?_
 refine l_putM T43 fun H3 hM => ?_
 refine goM ?_
 exact end_2 (by first | exact .inl rfl | exact .inr rfl) ⟨rfl, hM.pre⟩
end Go.Proofs.YtaofdhgkgklppaaGreat.VM
namespace Go.Proofs.YtaofdhgkgklppaaGreat.VM
open Go
set_option linter.unusedVariables false
set_option linter.unusedSimpArgs false
attribute [local irreducible] wq wqL wqD wqE wqO Th Bk EndR
set_option maxHeartbeats 8000000
section maps
variable {P : Program} {T : Tab}
theorem s_makeMap {ρ : Rho} {H : Heap} {t : Nat} : Does T ρ H (.makeMap t none) (.map H.length) (H ++ [.mp []]) := does_mem rfl rfl rfl
theorem s_lookup {ρ : Rho} {H : Heap} {t : Nat} {i : TI} {x ix : Operand} {b : Nat} {k : Int} {es : List (Int × Int)} (hT : T t = some i) (hk : i.k = .map) (hx : ρ.ev x = some (.map b)) (hix : ρ.ev ix = some (.int .i64 k)) (hb : H[b]? = some (.mp es)) : Does T ρ H (.lookup t x ix false) (.int .i64 ((mapGet es k).getD 0)) H := by
 obtain ⟨kk, size, bytes, zero, cmp⟩ := i
 simp only at hk
 subst hk
 exact does_mem rfl rfl (by simp only [memOp, hT, hx, hix, hb])
theorem s_mapUpdate {ρ : Rho} {H : Heap} {t : Nat} {i : TI} {x ix y : Operand} {b : Nat} {k v : Int} {es : List (Int × Int)} (hT : T t = some i) (hk : i.k = .map) (hx : ρ.ev x = some (.map b)) (hix : ρ.ev ix = some (.int .i64 k)) (hy : ρ.ev y = some (.int .i64 v)) (hb : H[b]? = some (.mp es)) : Does T ρ H (.mapUpdate t x ix y) V.undef (H.set b (.mp (mapPut es k v))) := by
 obtain ⟨kk, size, bytes, zero, cmp⟩ := i
 simp only at hk
 subst hk
 exact does_mem rfl rfl (by simp only [memOp, hT, hx, hix, hy, hb])
end maps
def mapF (b : Nat) (es : List (Int × Int)) : Fact where
 S c := c = b
 p H := H[b]? = some (.mp es)
 st H H' h hf := (hf b rfl).trans h
 lt H c h hc := by subst hc; exact (List.getElem?_eq_some_iff.1 h).1
theorem Mem.mapNew {B H : Heap} {L : List Res} (h : Mem B H L) : Mem B (H ++ [.mp []]) (.ro (mapF H.length []) :: L) := by
 refine h.call (L' := [.ro (mapF H.length [])]) ⟨List.prefix_append _ _, fun r hr => ?_, fun r hr c hc => ?_, by simp⟩
 ·rcases List.mem_singleton.1 hr with rfl
  show (H ++ [Blk.mp []])[H.length]? = some (.mp [])
  simp
 ·rcases List.mem_singleton.1 hr with rfl
  have : c = H.length := hc
  omega
theorem Mem.mapPut {B H : Heap} {L : List Res} {f : Res → List Res} {b : Nat} {es : List (Int × Int)} (h : Mem B H L) (hh : Has L (.ro (mapF b es)) f) (k v : Int) : Mem B (H.set b (.mp (VM.mapPut es k v))) (f (.ro (mapF b (VM.mapPut es k v)))) := by
 have hg : H[b]? = some (.mp es) := h.fact hh
 have hb := (List.getElem?_eq_some_iff.1 hg).1
 refine h.turn hh (by simp) (fun c hc hne => by rw [List.getElem?_set_ne (fun e => hne e.symm)]) ?_ fun c hc => .inl hc
 show (H.set b (.mp (VM.mapPut es k v)))[b]? = some (.mp (VM.mapPut es k v))
 rw [List.getElem?_set_self hb]
theorem get_put (k v j : Int) : ∀ es : List (Int × Int), (mapGet (mapPut es k v) j).getD 0 = if j = k then v else (mapGet es j).getD 0
 | [] => by
  unfold mapPut mapGet
  by_cases h : j = k
  ·subst h; simp
  ·rw [if_neg h]; simp [mapGet, Ne.symm h]
 | (a, b) :: r => by
  have ih := get_put k v j r
  unfold mapPut
  by_cases ha : a = k
  ·subst ha
   rw [if_pos rfl]
   by_cases h : j = a
   ·subst h; simp [mapGet]
   ·simp [mapGet, h, Ne.symm h]
  ·rw [if_neg ha]
   by_cases h : a = j
   ·subst h; simp [mapGet, ha]
   ·simp only [mapGet, if_neg h]
    exact ih
theorem heads1_ (H : Heap) (b mb : Nat) (m : List (Int × Int)) (e : Ent) (hb : H[b]? = some (.row [.map mb] true)) (hm : H[mb]? = some (.mp m)) : Call Tryz.prog 155 [.agg (entV e), .ptr b 0] H (.bool (e.n != (mapGet m e.id).getD 0)) H := by
 have hl0 : loadV T 214 H b 0 = some (.map mb) := ld_cell T214 rfl hb rfl
 refine call_pure fit mixed Tryz.func155 rfl rfl rfl (by kernel_rfl) rfl fun hM => ?_
 refine wq_seq (wq_line ?_)
 refine l_boxM T73 fun b1 H1 hM => ?_
 have hl := loadV_pre hM.pre hl0
 have hm1 := (prefix_get hM.pre (List.getElem?_eq_some_iff.1 hm).1).trans hm
 clear hl0 hb hm
 refine goM ?_
 refine l_pl ?_
 refine l_step (s_lookup T214 rfl eLk eLk hm1) ?_
 refine goM ?_
 exact end_1 (by first | exact .inl rfl | exact .inr rfl) ⟨rfl, hM.pre⟩
theorem heads_ (H : Heap) (b : Nat) (s : St) (rv mv ev sv : V) (xs : List MR) (l9 : loadV T 29 H b 9 = some mv) (l11 : loadV T 31 H b 11 = some sv) (ha : StAt H rv mv ev sv xs s) (hst : s.st.length ≤ 2 ^ 47) (h8 : xs.length ≤ 8) (hk : ∀ x ∈ xs, kFits s.c x.k = true) :
  Call Tryz.prog 77 [.ptr b 0] H (.bool (heads s)) H := by
 refine call_pure fit mixed Tryz.func77 rfl rfl rfl (by kernel_rfl) rfl fun hM => ?_
 obtain ⟨n, hn⟩ : ∃ n, xs.length = n := ⟨_, rfl⟩
 have hlen := ha.ms.len T29 rfl
 rw [hn] at hlen
 have hsl : s.ms.length = n := by rw [← ha.val, List.length_map, hn]
 refine goM ?_
 refine l_pl ?_
 refine l_step s_makeMap ?_
 replace hM := hM.mapNew
 generalize hmb : H.length = mb at *
 generalize hH1 : H ++ [Blk.mp []] = H1 at *
 refine l_newM (cs := [.nilm]) T214 rfl fun b3 H2 hM => ?_
 refine l_putM T214 fun H3 hM => ?_
 have l9'' := loadV_pre hM.pre l9
 refine goM ?_
 refine wq_loop (fun cc ρ h => ∃ (k : Nat) (m : List (Int × Int)), k ≤ n ∧ cc = n - k ∧ (∀ (j : Nat) x, j < k → xs[j]? = some x → headOk s.st x.val = true) ∧ (∀ id, (mapGet m id).getD 0 = (countOf (s.ms.take k) id : Int)) ∧ Mem H h [.box b3 [.map mb], .ro (mapF mb m)] ∧ ρ 0 = .ptr b 0 ∧ ρ 3 = .ptr b3 0 ∧ ρ 14 = mv ∧ ρ 15 = .int .i64 (n : Int) ∧ ρ 16 = .int .i64 (k : Int)) ⟨0, [], Nat.zero_le _, rfl, fun j x hj => by omega, fun id => rfl, hM, by simp [put_app, put_none, rho0_app, *]⟩ ?_
 clear l9'' l9 hH1
 repeat clear hM
 rintro _ ρ h ⟨k, m, hkn, rfl, hok, hcnt, hM, g0, g3, g14, g15, g16⟩
 refine goM ?_
 refine cond_go (fun hb => ?_) (fun hb => ?_)
 ·have hk' : k < n := by simpa using hb
  clear hb
  obtain ⟨x, hx⟩ : ∃ x, xs[k]? = some x := ⟨xs[k]'(by omega), by simp⟩
  have hxm := List.mem_of_getElem? hx
  have hka := ha.ks x hxm
  have hkf := hk x hxm
  have hchk : chkMay x.k.ws x.k.vs x.k.r x.k.m x.k.t = true := by
   unfold kFits memFits at hkf
   rw [Bool.and_eq_true] at hkf
   exact hkf.1
  have hmx : s.ms[k]? = some x.val := by rw [← ha.val, List.getElem?_map, hx]; rfl
  obtain ⟨bo, o, hi, lo, _, _⟩ := mr_at (ha.ms.mono hM.pre) hx
  have s1 := hka.ws.cells
  have s2 := hka.vs.cells
  have hw := wrap_succ (n := k) (by omega)
  have hcs := fun id => hcnt id
  have hsnoc : ∀ id, countOf (s.ms.take (k + 1)) id = countOf (s.ms.take k) id + if x.h = id then 1 else 0 := fun id => by
   rw [List.take_add_one, hmx]
   exact countOf_snoc _ _ _
  have hle := countOf_le (s.ms.take k) x.h
  rw [List.length_take] at hle
  have hho : headOk s.st x.val = ((getS s.st x.h).2 && txEq (getS s.st x.h).1 (textK x.k)) := rfl
  have hbad : headOk s.st x.val = false → heads s = false := fun h => by
   unfold heads
   have : s.ms.all (headOk s.st) = false := by
    rw [List.all_eq_false]
    exact ⟨x.val, List.mem_of_getElem? hmx, by rw [h]; decide⟩
   rw [this, Bool.false_and]
  have hgt := get15_ h sv s.st x.h (ha.st.mono hM.pre) hst
  clear hmx hkf hxm
  refine goM ?_
  refine l_newM (cs := zeroMem) T51 rfl fun b5 H4 hM => ?_
  refine l_putM T51 fun H5 hM => ?_
  refine goM ?_
  have c1 := checkPut_ H5 x.w x.v x.k.ws x.k.vs x.k.r x.k.m x.k.t (hka.mono hM.pre).ws (hka.mono hM.pre).vs hchk
  refine l_callG c1 ?_
  clear c1 hgt
  have htxt : strOf (putL x.k.ws x.k.vs x.k.r x.k.m x.k.t) = textK x.k := rfl
  rw [htxt]
  have hgt := get15_ H5 sv s.st x.h (ha.st.mono hM.pre) hst
  have l11' := loadV_pre hM.pre l11
  have htd := tx_def (getS s.st x.h).1 (textK x.k)
  generalize getS s.st x.h = g at *
  generalize textK x.k = t at *
  obtain ⟨gt, gb⟩ := g
  simp only at hgt htd hho
  obtain ⟨q, hq⟩ : ∃ q, txEq gt t = q := ⟨_, rfl⟩
  rw [hq] at htd hho
  clear hq htxt
  cases gb with
  | false =>
   rw [hbad hho]
   clear hbad hho hcnt hcs hsnoc hok hka hchk
   refine goM ?_
   refine d_call0G hgt ?_
   refine goM ?_
   exact end_1 (by first | exact .inl rfl | exact .inr rfl) ⟨rfl, hM.pre⟩
  | true =>
   cases q with
   | false =>
    rw [hbad hho]
    clear hbad hho hcnt hcs hsnoc hok hka hchk
    refine goM ?_
    refine d_call0G hgt ?_
    refine goM ?_
    exact end_1 (by first | exact .inl rfl | exact .inr rfl) ⟨rfl, hM.pre⟩
   | true =>
    have hw2 : IntKind.i64.wrap ((mapGet m x.h).getD 0 + 1) = (mapGet m x.h).getD 0 + 1 := by
     rw [hcnt]
     exact wrap_i64 (by omega) (by omega)
    have hcx : Held (∀ id, (mapGet m id).getD 0 = (countOf (s.ms.take k) id : Int)) := hcnt
    clear hbad hcnt hcs
    refine goM ?_
    refine d_call0G hgt ?_
    refine goM ?_
    have hmp : H5[mb]? = some (.mp m) := hM.fact (F := mapF mb m) (by (repeat (first | exact Has.here | apply Has.there)))
    refine l_pl ?_
    refine l_step (s_lookup T214 rfl eLk eLk hmp) ?_
    refine goM ?_
    refine l_pl ?_
    refine l_step (s_mapUpdate T214 rfl eLk eLk eLk hmp) ?_
    have hM2 := hM.mapPut (b := mb) (es := m) (by (repeat (first | exact Has.here | apply Has.there))) x.h ((mapGet m x.h).getD 0 + 1)
    clear hM hmp
    generalize H5.set mb (.mp (VM.mapPut m x.h ((mapGet m x.h).getD 0 + 1))) = H6 at *
    refine goM ?_
    refine ⟨n - (k + 1), by omega, k + 1, _, hk', rfl, fun j y hj hy => ?_, fun id => ?_, hM2.sub (by (repeat (first | exact List.Sublist.slnil | exact List.Sublist.refl _ | refine List.Sublist.cons_cons _ ?_ | refine List.Sublist.cons _ ?_))), by simp [put_app, put_none, *]⟩
    ·by_cases hjk : j < k
     ·exact hok j y hjk hy
     ·obtain rfl : j = k := by omega
      rw [hx] at hy
      cases hy
      exact hho
    ·have hcnt : ∀ id, (mapGet m id).getD 0 = (countOf (s.ms.take k) id : Int) := hcx
     rw [get_put, hsnoc, hcnt, hcnt]
     by_cases hid : id = x.h
     ·subst hid; simp
     ·rw [if_neg hid, if_neg (Ne.symm hid)]; simp
 ·have hk' : k = n := by have : ¬ k < n := by simpa using hb
                         omega
  subst hk'
  clear hb
  have hall : s.ms.all (headOk s.st) = true := by
   rw [List.all_eq_true]
   intro y hy
   rw [← ha.val, List.mem_map] at hy
   obtain ⟨x, hx, rfl⟩ := hy
   obtain ⟨j, hj⟩ := List.mem_iff_getElem?.1 hx
   exact hok j x (by have := (List.getElem?_eq_some_iff.1 hj).1; omega) hj
  rw [List.take_of_length_le (by omega)] at hcnt
  have hany : s.st.any (fun e => e.n != (mapGet m e.id).getD 0) = !(s.st.all (entHeld s.ms)) := by
   rw [List.not_all_eq_any_not]
   congr 1
   funext e
   unfold entHeld
   rw [hcnt]
   by_cases h : e.n = (countOf s.ms e.id : Int)
   ·rw [decide_eq_true h, h]; simp
   ·rw [decide_eq_false h]; simp [h]
  have c1 := containsEnt_ h sv s.st 155 [.ptr b3 0] (fun e => e.n != (mapGet m e.id).getD 0) (ha.st.mono hM.pre) hst (fun e _ => heads1_ h b3 mb m e (hM.row (by (repeat (first | exact Has.here | apply Has.there)))) (hM.fact (F := mapF mb m) (by (repeat (first | exact Has.here | apply Has.there)))))
  rw [hany] at c1
  have l11' := loadV_pre hM.pre l11
  have hres : heads s = s.st.all (entHeld s.ms) := by unfold heads; rw [hall, Bool.true_and]
  rw [hres]
  generalize s.st.all (entHeld s.ms) = z at *
  clear hall hany hcnt hok hk ha l11
  refine goM ?_
  refine l_callG c1 ?_
  refine goM ?_
  cases z
  all_goals exact end_1 (by first | exact .inl rfl | exact .inr rfl) ⟨rfl, hM.pre⟩
end Go.Proofs.YtaofdhgkgklppaaGreat.VM
namespace Go.Proofs.YtaofdhgkgklppaaGreat.VM
open Go
set_option linter.unusedVariables false
set_option linter.unusedSimpArgs false
attribute [local irreducible] wq wqL wqD wqE wqO Th Bk EndR
set_option maxHeartbeats 8000000
theorem St.Fit.kx {s : St} (hf : s.Fit) {H : Heap} {rv mv ev sv : V} {xs : List MR} (ha : StAt H rv mv ev sv xs s) : ∀ x ∈ xs, x.k.Fit := fun x hx => hf.k x.val (by rw [← ha.val]; exact List.mem_map_of_mem hx)
theorem StAt.len {H : Heap} {rv mv ev sv : V} {xs : List MR} {s : St} (ha : StAt H rv mv ev sv xs s) : xs.length = s.ms.length := by rw [← ha.val, List.length_map]
theorem odd_any {H : Heap} {rv mv ev sv : V} {xs : List MR} {s : St} (ha : StAt H rv mv ev sv xs s) : xs.any (fun x => !(memOk s.c x.val)) = !(s.ms.all (memOk s.c)) := by
 rw [← ha.val, List.all_map, List.not_all_eq_any_not]; rfl
theorem stateMay_eq (s : St) : stateMay s = (cfgMay s.c && decide ((s.ms.length : Int) = s.c.m) && s.ms.all (memOk s.c) && eventsMay s.es s.c.m && storeMay s.st && heads s) := rfl
theorem controlMay_ (H : Heap) (s : St) (rv mv ev sv : V) (xs : List MR) (ha : StAt H rv mv ev sv xs s) (hf : s.Fit) :
  Call Tryz.prog 27 [.agg (stC s.c rv mv ev sv)] H (.bool (stateMay s)) H := by
 have l1 := hf.c.rows
 have l2 := hf.c.row
 have l3 := hf.ms
 have l4 := hf.es
 have l5 := hf.st
 have s1 : rv.cells = [rv] ∧ rv.isTup = false := by obtain ⟨_, h, _⟩ := ha.rows; exact h.cells
 have s2 := ha.ms.cells
 have s3 := ha.es.cells
 have s4 := ha.st.cells
 have hxl := ha.len
 have hkx := hf.kx ha
 have hlen := ha.ms.len T29 rfl
 rw [hxl] at hlen
 refine call_pure fit mixed Tryz.func27 rfl rfl rfl (by kernel_rfl) rfl fun hM => ?_
 refine wq_seq (wq_line ?_)
 refine l_boxM T33 fun b1 H1 hM => ?_
 refine goM ?_
 refine l_newM (cs := [.nilp]) T108 rfl fun b3 H2 hM => ?_
 refine l_putM T108 fun H3 hM => ?_
 have c1 := confMay_ H3 s.c rv (ha.rows.mono hM.pre) (by omega) (fun r hr => by have := l2 r hr; omega)
 have c2 := containsMem_ H3 mv xs 73 [.ptr b3 0] (fun x => !(memOk s.c x.val)) (ha.ms.mono hM.pre) (by omega) (fun x hx => odd_ H3 b3 b1 0 s.c x (hM.row (by (repeat (first | exact Has.here | apply Has.there)))) (hM.ldA (b := b1) (cs := stC s.c rv mv ev sv) (by (repeat (first | exact Has.here | apply Has.there))) T23 rfl (by show 0 + 1 + 2 ≤ 12; decide) rfl) (hM.ld (b := b1) (cs := stC s.c rv mv ev sv) (by (repeat (first | exact Has.here | apply Has.there))) T3 rfl rfl) ((ha.ks x hx).mono hM.pre) (hkx x hx))
 rw [odd_any ha] at c2
 have c3 := lineageMay H3 ev s.es s.c.m (ha.es.mono hM.pre) (by omega)
 have c4 := storeMay_ H3 sv s.st (ha.st.mono hM.pre) (by omega)
 have c5 : cfgMay s.c = true → ((s.ms.length : Int) = s.c.m) → s.ms.all (memOk s.c) = true → Call Tryz.prog 77 [.ptr b1 0] H3 (.bool (heads s)) H3 := fun h1 h2 h3 => by
  obtain ⟨hm2, _⟩ := cfgMay_split h1
  refine heads_ H3 b1 s rv mv ev sv xs (hM.ld (b := b1) (cs := stC s.c rv mv ev sv) (by (repeat (first | exact Has.here | apply Has.there))) T29 rfl rfl) (hM.ld (b := b1) (cs := stC s.c rv mv ev sv) (by (repeat (first | exact Has.here | apply Has.there))) T31 rfl rfl) (ha.mono hM.pre) (by omega) (by omega) fun x hx => ?_
  have := List.all_eq_true.1 h3 x.val (by rw [← ha.val]; exact List.mem_map_of_mem hx)
  unfold memOk MR.val at this
  rw [Bool.and_eq_true] at this
  exact this.1
 rw [stateMay_eq]
 obtain ⟨q1, e1⟩ : ∃ q, cfgMay s.c = q := ⟨_, rfl⟩
 obtain ⟨q2, e2⟩ : ∃ q, decide ((s.ms.length : Int) = s.c.m) = q := ⟨_, rfl⟩
 obtain ⟨q3, e3⟩ : ∃ q, s.ms.all (memOk s.c) = q := ⟨_, rfl⟩
 obtain ⟨q4, e4⟩ : ∃ q, eventsMay s.es s.c.m = q := ⟨_, rfl⟩
 obtain ⟨q5, e5⟩ : ∃ q, storeMay s.st = q := ⟨_, rfl⟩
 have d2 : ((s.ms.length : Int) == s.c.m) = q2 := by rw [← e2]; by_cases h : (s.ms.length : Int) = s.c.m <;> simp [h]
 have c5' : q1 = true → q2 = true → q3 = true → Call Tryz.prog 77 [.ptr b1 0] H3 (.bool (heads s)) H3 := fun h1 h2 h3 => c5 (e1.trans h1) (of_decide_eq_true (e2.trans h2)) (e3.trans h3)
 rw [e1, e2, e3, e4, e5]
 rw [e1] at c1
 rw [e3] at c2
 rw [e4] at c3
 rw [e5] at c4
 generalize heads s = hd at *
 clear c5 e1 e2 e3 e4 e5 ha hf hkx l1 l2 l3 l4 l5
 cases q1 with
 | false =>
  clear c5'
  refine goM ?_
  refine d_call0G c1 ?_
  refine goM ?_
  exact end_1 (by first | exact .inl rfl | exact .inr rfl) ⟨rfl, hM.pre⟩
 | true =>
 cases q2 with
 | false =>
  clear c5'
  refine goM ?_
  refine d_call0G c1 ?_
  refine goM ?_
  exact end_1 (by first | exact .inl rfl | exact .inr rfl) ⟨rfl, hM.pre⟩
 | true =>
 cases q3 with
 | false =>
  clear c5'
  refine goM ?_
  refine d_call0G c1 ?_
  refine goM ?_
  refine d_call0G c2 ?_
  refine goM ?_
  exact end_1 (by first | exact .inl rfl | exact .inr rfl) ⟨rfl, hM.pre⟩
 | true =>
 have c5 := c5' rfl rfl rfl
 clear c5'
 cases q4 with
 | false =>
  refine goM ?_
  refine d_call0G c1 ?_
  refine goM ?_
  refine d_call0G c2 ?_
  refine goM ?_
  refine d_call0G c3 ?_
  refine goM ?_
  exact end_1 (by first | exact .inl rfl | exact .inr rfl) ⟨rfl, hM.pre⟩
 | true =>
 cases q5 with
 | false =>
  refine goM ?_
  refine d_call0G c1 ?_
  refine goM ?_
  refine d_call0G c2 ?_
  refine goM ?_
  refine d_call0G c3 ?_
  refine goM ?_
  refine d_call0G c4 ?_
  refine goM ?_
  exact end_1 (by first | exact .inl rfl | exact .inr rfl) ⟨rfl, hM.pre⟩
 | true =>
  refine goM ?_
  refine d_call0G c1 ?_
  refine goM ?_
  refine d_call0G c2 ?_
  refine goM ?_
  refine d_call0G c3 ?_
  refine goM ?_
  refine d_call0G c4 ?_
  refine goM ?_
  refine d_call0G c5 ?_
  refine goM ?_
  exact end_1 (by first | exact .inl rfl | exact .inr rfl) ⟨rfl, hM.pre⟩
theorem all_ (H : Heap) (b : Nat) (s : St) (rv mv ev sv : V) (xs : List MR) (l0 : loadV T 26 H b 0 = some (.agg (cfgC s.c rv))) (l9 : loadV T 29 H b 9 = some mv) (ha : StAt H rv mv ev sv xs s) (hf : s.Fit) :
  ∃ w H', Call Tryz.prog 72 [.ptr b 0] H w H' ∧ Mem H H' [.own 1 intC w (scoreL s)] := by
 refine call_mem fit mixed Tryz.func72 rfl rfl rfl (by kernel_rfl) fun hM => ?_
 obtain ⟨n, hn⟩ : ∃ n, xs.length = n := ⟨_, rfl⟩
 have hlen := ha.ms.len T29 rfl
 rw [hn] at hlen
 have hkx := hf.kx ha
 have hnb : n * 80 ≤ 140737488351232 := by have := hf.ms; rw [← hn, ha.len]; exact this
 have hsc : scoreL s = xs.map fun x => (scoreR s.c x.k).1 := by unfold scoreL; rw [← ha.val, List.map_map]; rfl
 rw [hsc]
 clear hsc
 refine goM ?_
 refine wq_loop (fun cc ρ h => ∃ (k : Nat) (u : V), k ≤ n ∧ cc = n - k ∧ Mem H h [.own 1 intC u ((xs.take k).map fun x => (scoreR s.c x.k).1)] ∧ ρ 0 = .ptr b 0 ∧ ρ 3 = u ∧ ρ 11 = mv ∧ ρ 12 = .int .i64 (n : Int) ∧ ρ 13 = .int .i64 (k : Int)) ⟨0, .nils, Nat.zero_le _, rfl, hM.nil 1 intC, by simp [put_app, put_none, rho0_app, *]⟩ ?_
 clear hM
 rintro _ ρ h ⟨k, u, hk, rfl, hM, g0, g3, g11, g12, g13⟩
 have t1 := (hM.sl .here).cells
 refine goM ?_
 refine cond_go (fun hb => ?_) (fun hb => ?_)
 ·have hk' : k < n := by simpa using hb
  clear hb
  obtain ⟨x, hx⟩ : ∃ x, xs[k]? = some x := ⟨xs[k]'(by omega), by simp⟩
  have hxm := List.mem_of_getElem? hx
  have hka := ha.ks x hxm
  obtain ⟨bo, o, hi, lo, _, _⟩ := mr_at (ha.ms.mono hM.pre) hx
  have s1 := hka.ws.cells
  have s2 := hka.vs.cells
  have hw := wrap_succ (n := k) (by omega)
  have htk : (xs.take (k + 1)).map (fun x => (scoreR s.c x.k).1) = (xs.take k).map (fun x => (scoreR s.c x.k).1) ++ [(scoreR s.c x.k).1] := by rw [List.take_add_one, hx]; simp
  have hkf := hkx x hxm
  clear hx hxm
  refine goM ?_
  refine l_newM (cs := zeroMem) T51 rfl fun b5 H4 hM => ?_
  refine l_putM T51 fun H5 hM => ?_
  have l0' := loadV_pre hM.pre l0
  refine goM ?_
  have c1 := member_Score H5 s.c rv x.w x.v x.k x.h (ha.rows.mono hM.pre) (hka.mono hM.pre) hf.c hkf
  refine d_call0G c1 ?_
  refine goM ?_
  refine l_sliceM intC [(scoreR s.c x.k).1] [.int .i64 (scoreR s.c x.k).1] T27 rfl T3 rfl (cells_ints [(scoreR s.c x.k).1]) (by decide) fun e1 H6 hM => ?_
  refine goM ?_
  refine l_appM (hM.sl .here) (xs := (xs.take k).map fun x => (scoreR s.c x.k).1) (hh := .there (.there .here)) (hb := by simp only [List.length_map, List.length_take, List.length_cons, List.length_nil]; rw [Nat.min_eq_left (by omega)]; show (k + 1) * 8 ≤ _ ∧ k + 1 ≤ _; omega) fun u' H7 hM => ?_
  have t2 := (hM.sl (v := u') (xs := (xs.take k).map (fun x => (scoreR s.c x.k).1) ++ [(scoreR s.c x.k).1]) (by (repeat (first | exact Has.here | apply Has.there)))).cells
  refine goM ?_
  refine ⟨n - (k + 1), by omega, k + 1, u', hk', rfl, ?_, by simp [put_app, put_none, *]⟩
  rw [htk]
  exact hM.subG
 ·have hk' : k = n := by have : ¬ k < n := by simpa using hb
                         omega
  subst hk'
  clear hb
  rw [List.take_of_length_le (by omega)] at hM
  refine goM ?_
  exact end_1 (by first | exact .inl rfl | exact .inr rfl) hM
end Go.Proofs.YtaofdhgkgklppaaGreat.VM
