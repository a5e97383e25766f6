/- Joined texts: StoreA, StoreB, InsA, InsB, InsC, StoreC, StoreD, StoreE, StoreF, TrainG, StoreG, StoreL. -/
import Derived.Test.YtengdmagaeckoaaGreatJL7
import Derived.WalkKit
import Derived.RegionTactic
import Derived.Deep.RegionLaw
import Derived.Lib.Overlaps
import Derived.Shelf.Spec.SlicesInsert
/- Layer 15: the program's texts, entries; places of texts and of numbers. -/
namespace Go.Proofs.YtengdmagaeckoaaGreat.VM
open Go
set_option linter.unusedVariables false
set_option linter.unusedSimpArgs false
attribute [local irreducible] wq wqL wqD wqE wqO Th Bk EndR
set_option maxHeartbeats 8000000

theorem no_text (s : ByteArray) : (s.toList == ByteArray.toList ⟨#[]⟩) = !(decide (1 ≤ s.size)) := by
  have h := txEq_iff (a := s) (b := ⟨#[]⟩)
  rw [tx_def]
  cases hq : txEq s ⟨#[]⟩ with
  | true =>
    have := h.1 hq
    subst this
    rfl
  | false =>
    have hne : ¬ s.size = 0 := fun h0 => by
      have : s = ⟨#[]⟩ := by
        apply ByteArray.ext
        exact Array.eq_empty_of_size_eq_zero h0
      rw [h.2 this] at hq; cases hq
    have : decide (1 ≤ s.size) = true := decide_eq_true (by omega)
    rw [this]; rfl
theorem str_len0 (s : ByteArray) : builtinP T .len [9] [.str s] = some (.int .i64 (s.size : Int)) := by
  simp only [builtinP, T9]
theorem text_ (H : Heap) (s : ByteArray) : Call Tryz.prog 100 [.str s] H (.bool (textOk s)) H := by
  refine call_pure fit mixed Tryz.func100 rfl rfl rfl (by kernel_rfl) rfl fun hM => ?_
  have e := no_text s
  have hl := str_len0 s
  have e2 : decide ((s.size : Int) ≤ 256) = decide (s.size ≤ 256) := by apply Bool.eq_iff_iff.2; simp; omega
  unfold textOk
  obtain ⟨q, hq⟩ : ∃ q, decide (1 ≤ s.size) = q := ⟨_, rfl⟩
  rw [hq] at e ⊢
  clear hq
  cases q
  · refine goM ?_
    exact end_1 (by first | exact .inl rfl | exact .inr rfl) ⟨rfl, List.prefix_refl _⟩
  · refine goM ?_
    refine end_1 (by first | exact .inl rfl | exact .inr rfl) ⟨?_, List.prefix_refl _⟩
    simp

/-- an entry of a slice: where it lies, what is there -/
theorem ent_at {H : Heap} {v : V} {es : List Ent} (h : Sl 3 entC H v es) {k : Nat} {e : Ent} (hk : es[k]? = some e) : ∃ b o, idxV T 57 v (k : Int) = some (.ptr b o) ∧ loadV T 76 H b o = some (.agg (entV e)) ∧ loadV T 3 H b o = some (.int .i64 e.id) ∧ loadV T 9 H b (o + 1) = some (.str e.tx) ∧ loadV T 3 H b (o + 2) = some (.int .i64 e.n) := by
  obtain ⟨b, o, cs, hi, hc, _, hlo, hlc⟩ := h.get T57 rfl T76 rfl hk
  rw [hc] at hlo hlc
  exact ⟨b, o, hi, loadV_agg T76 rfl hlo, loadV_one T3 rfl (hlc 0 _ rfl), loadV_one T9 rfl (hlc 1 _ rfl), loadV_one T3 rfl (hlc 2 _ rfl)⟩

theorem entry_ (H : Heap) (b o : Nat) (e : Ent) (l0 : loadV T 3 H b o = some (.int .i64 e.id)) (l1 : loadV T 9 H b (o + 1) = some (.str e.tx)) (l2 : loadV T 3 H b (o + 2) = some (.int .i64 e.n)) : Call Tryz.prog 108 [.ptr b o] H (.bool (entOk e)) H := by
  refine call_pure fit mixed Tryz.func108 rfl rfl rfl (by kernel_rfl) rfl fun hM => ?_
  have c1 := text_ H e.tx
  have h1 : within e.id 0 1024 = (decide (e.id ≥ 0) && decide (e.id ≤ 1024)) := by simp [within]
  have h2 : within e.n 0 8 = (decide (e.n ≥ 0) && decide (e.n ≤ 8)) := by simp [within]
  unfold entOk
  rw [h1, h2]
  obtain ⟨q1, e1⟩ : ∃ q, decide (e.id ≥ 0) = q := ⟨_, rfl⟩
  obtain ⟨q2, e2⟩ : ∃ q, decide (e.id ≤ 1024) = q := ⟨_, rfl⟩
  obtain ⟨q3, e3⟩ : ∃ q, textOk e.tx = q := ⟨_, rfl⟩
  obtain ⟨q4, e4⟩ : ∃ q, decide (e.n ≥ 0) = q := ⟨_, rfl⟩
  obtain ⟨q5, e5⟩ : ∃ q, decide (e.n ≤ 8) = q := ⟨_, rfl⟩
  rw [e3] at c1
  rw [e1, e2, e3, e4, e5]
  clear h1 h2
  cases q1 <;> cases q2 <;> cases q3 <;> cases q4
  all_goals refine goM ?_
  all_goals try (refine l_callG c1 ?_)
  all_goals refine goM ?_
  all_goals exact end_1 (by first | exact .inl rfl | exact .inr rfl) ⟨rfl, List.prefix_refl _⟩

/-- the first that is so; below 0: none -/
def idxR (es : List Ent) (p : Ent → Bool) : Int := if es.findIdx p < es.length then (es.findIdx p : Int) else -1
theorem indexEnt_ (H : Heap) (v : V) (es : List Ent) (g : Nat) (caps : List V) (p : Ent → Bool) (hx : Sl 3 entC H v es) (hl : es.length ≤ 2 ^ 47) (hg : ∀ e ∈ es, Call Tryz.prog g (.agg (entV e) :: caps) H (.bool (p e)) H) :
    Call Tryz.prog 139 [v, .fn g caps] H (.int .i64 (idxR es p)) H := by
  refine call_pure fit mixed Tryz.func139 rfl rfl rfl (by kernel_rfl) rfl fun hM => ?_
  obtain ⟨n, hn⟩ : ∃ n, es.length = n := ⟨_, rfl⟩
  have hlen := hx.len T57 rfl
  rw [hn] at hlen
  obtain ⟨k0, hk0⟩ : ∃ k, es.findIdx p = k := ⟨_, rfl⟩
  have hkn : k0 ≤ n := by rw [← hk0, ← hn]; exact List.findIdx_le_length
  have hres : idxR es p = if k0 < n then (k0 : Int) else -1 := by unfold idxR; rw [hk0, hn]
  refine goM ?_
  refine wq_loop (fun c ρ h => ∃ k, k ≤ k0 ∧ c = n - k ∧ h = H ∧ ρ 0 = v ∧ ρ 1 = .fn g caps ∧ ρ 7 = .int .i64 (n : Int) ∧ ρ 8 = .int .i64 (k : Int)) ⟨0, Nat.zero_le _, rfl, rfl, rfl, rfl, rfl, rfl⟩ ?_
  clear hM
  rintro _ ρ h ⟨k, hk, rfl, rfl, h0, h1, h7, h8⟩
  refine goM ?_
  refine cond_go (fun hb => ?_) (fun hb => ?_)
  · have hk' : k < n := by simpa using hb
    clear hb
    obtain ⟨e, he⟩ : ∃ e, es[k]? = some e := ⟨es[k]'(by omega), by simp⟩
    obtain ⟨b, o, hi, hlo, _⟩ := ent_at hx he
    have hw := wrap_succ (n := k) (by omega)
    have c1 := hg e (List.mem_of_getElem? he)
    have hpe : p e = decide (k = k0) := by
      have hkl : k < es.length := by omega
      have hek : es[k] = e := by rw [List.getElem?_eq_getElem hkl] at he; exact Option.some.inj he
      by_cases hkk : k < k0
      · have := List.not_of_lt_findIdx (xs := es) (p := p) (i := k) (by omega)
        rw [hek] at this
        rw [this]; exact (decide_eq_false (by omega)).symm
      · obtain rfl : k = k0 := by omega
        have := List.findIdx_getElem (xs := es) (p := p) (w := by omega)
        rw [decide_eq_true rfl, ← hek]
        simpa [hk0] using this
    rw [hpe] at c1
    clear he hpe hlen
    by_cases hkk : k = k0
    · rw [decide_eq_true hkk] at c1
      rw [if_pos (by omega), ← hkk] at hres
      rw [hres]
      clear hres hk0 hkk hk hkn
      refine goM ?_
      refine l_callG c1 ?_
      refine goM ?_
      exact end_1 (by first | exact .inl rfl | exact .inr rfl) ⟨rfl, List.prefix_refl _⟩
    · rw [decide_eq_false hkk] at c1
      have hk1 : k + 1 ≤ k0 := by omega
      clear hres hk0 hkk
      refine goM ?_
      refine l_callG c1 ?_
      refine goM ?_
      exact ⟨n - (k + 1), by omega, k + 1, hk1, rfl, rfl, by simp [put_app, put_none, *]⟩
  · have hk' : k = n := by have : ¬ k < n := by simpa using hb
                           omega
    clear hb
    rw [if_neg (by omega)] at hres
    rw [hres]
    clear hres hk0
    refine goM ?_
    exact end_1 (by first | exact .inl rfl | exact .inr rfl) ⟨rfl, List.prefix_refl _⟩

theorem holds1_ (H : Heap) (b : Nat) (e : Ent) (s : ByteArray) (hb : H[b]? = some (.row [.str s] true)) : Call Tryz.prog 140 [.agg (entV e), .ptr b 0] H (.bool (txEq e.tx s)) H := by
  refine call_pure fit mixed Tryz.func140 rfl rfl rfl (by kernel_rfl) rfl fun hM => ?_
  refine wq_seq (wq_line ?_)
  have hl0 : loadV T 9 H b 0 = some (.str s) := ld_cell T9 rfl hb rfl
  refine l_boxM T76 fun b1 H1 hM => ?_
  have hl := loadV_pre hM.pre hl0
  have htd := tx_def e.tx s
  refine goM ?_
  exact end_1 (by first | exact .inl rfl | exact .inr rfl) ⟨rfl, hM.pre⟩
/-- the place of a text as the program tells it -/
def holdsR (es : List Ent) (s : ByteArray) : Int := if holdsN es s < es.length then (holdsN es s : Int) else -1
theorem holds_ (H : Heap) (v : V) (es : List Ent) (s : ByteArray) (hx : Sl 3 entC H v es) (hl : es.length ≤ 2 ^ 47) : Call Tryz.prog 102 [v, .str s] H (.int .i64 (holdsR es s)) H := by
  refine call_pure fit mixed Tryz.func102 rfl rfl rfl (by kernel_rfl) rfl fun hM => ?_
  refine wq_seq (wq_line ?_)
  refine l_boxM T9 fun b1 H1 hM => ?_
  have c1 := indexEnt_ H1 v es 140 [.ptr b1 0] (fun e => txEq e.tx s) (hx.mono hM.pre) hl (fun e _ => holds1_ H1 b1 e s (hM.row .here))
  have hr : idxR es (fun e => txEq e.tx s) = holdsR es s := rfl
  rw [hr] at c1
  refine goM ?_
  refine l_callG c1 ?_
  refine goM ?_
  exact end_1 (by first | exact .inl rfl | exact .inr rfl) ⟨rfl, hM.pre⟩
end Go.Proofs.YtengdmagaeckoaaGreat.VM

/- Layer 15: the program's search of a number; May. -/
namespace Go.Proofs.YtengdmagaeckoaaGreat.VM
open Go
set_option linter.unusedVariables false
set_option linter.unusedSimpArgs false
attribute [local irreducible] wq wqL wqD wqE wqO Th Bk EndR
set_option maxHeartbeats 8000000

def cmpI (a b : Int) : Int := if a < b then -1 else if a > b then 1 else 0
theorem isNaN_ (H : Heap) (a : Int) : Call Tryz.prog 176 [.int .i64 a] H (.bool false) H := by
  refine call_pure fit mixed Tryz.func176 rfl rfl rfl (by kernel_rfl) rfl fun hM => ?_
  refine goM ?_
  exact end_1 (by first | exact .inl rfl | exact .inr rfl) ⟨rfl, List.prefix_refl _⟩
theorem compare_ (H : Heap) (a b : Int) : Call Tryz.prog 169 [.int .i64 a, .int .i64 b] H (.int .i64 (cmpI a b)) H := by
  refine call_pure fit mixed Tryz.func169 rfl rfl rfl (by kernel_rfl) rfl fun hM => ?_
  refine goM ?_
  refine l_callG (isNaN_ H a) ?_
  refine goM ?_
  refine l_callG (isNaN_ H b) ?_
  unfold cmpI
  by_cases h1 : a < b
  · have d1 := decide_eq_true h1
    rw [if_pos h1]
    clear h1
    refine goM ?_
    exact end_1 (by first | exact .inl rfl | exact .inr rfl) ⟨rfl, List.prefix_refl _⟩
  · have d1 := decide_eq_false h1
    rw [if_neg h1]
    clear h1
    by_cases h2 : a > b
    · have d2 := decide_eq_true h2
      rw [if_pos h2]
      clear h2
      refine goM ?_
      exact end_1 (by first | exact .inl rfl | exact .inr rfl) ⟨rfl, List.prefix_refl _⟩
    · have d2 := decide_eq_false h2
      rw [if_neg h2]
      clear h2
      refine goM ?_
      exact end_1 (by first | exact .inl rfl | exact .inr rfl) ⟨rfl, List.prefix_refl _⟩
theorem find1_ (H : Heap) (e : Ent) (id : Int) : Call Tryz.prog 168 [.agg (entV e), .int .i64 id] H (.int .i64 (cmpI e.id id)) H := by
  refine call_pure fit mixed Tryz.func168 rfl rfl rfl (by kernel_rfl) rfl fun hM => ?_
  refine wq_seq (wq_line ?_)
  refine l_boxM T76 fun b1 H1 hM => ?_
  refine goM ?_
  refine l_callG (compare_ _ _ _) ?_
  refine goM ?_
  exact end_1 (by first | exact .inl rfl | exact .inr rfl) ⟨rfl, hM.pre⟩

/-- the first whose number is not less -/
def lowN (es : List Ent) (id : Int) : Nat := es.findIdx fun e => decide (e.id ≥ id)
def isN (es : List Ent) (id : Int) : Bool := match es[lowN es id]? with
  | none => false
  | some e => decide (e.id = id)
theorem lowN_le (es : List Ent) (id : Int) : lowN es id ≤ es.length := List.findIdx_le_length
theorem lowN_lt {es : List Ent} {id : Int} {k : Nat} {e : Ent} (hk : k < lowN es id) (h : es[k]? = some e) : e.id < id := by
  obtain ⟨hlt, rfl⟩ := List.getElem?_eq_some_iff.1 h
  have := List.not_of_lt_findIdx (xs := es) (p := fun e : Ent => decide (e.id ≥ id)) hk
  simp at this; omega
theorem lowN_at {es : List Ent} {id : Int} {e : Ent} (h : es[lowN es id]? = some e) : e.id ≥ id := by
  obtain ⟨hlt, rfl⟩ := List.getElem?_eq_some_iff.1 h
  have := List.findIdx_getElem (xs := es) (p := fun e : Ent => decide (e.id ≥ id)) (w := hlt)
  simpa [lowN] using this
theorem lowN_ge {es : List Ent} (hs : Store es) {id : Int} {k : Nat} {e : Ent} (hk : lowN es id ≤ k) (h : es[k]? = some e) : e.id ≥ id := by
  have hlt := (List.getElem?_eq_some_iff.1 h).1
  have hx : es[lowN es id]? = some (es[lowN es id]'(by omega)) := by simp
  have h0 := lowN_at hx
  rcases Nat.lt_or_eq_of_le hk with h1 | h1
  · have := hs.up _ _ _ _ h1 hx h
    omega
  · subst h1
    rw [h] at hx
    cases hx
    omega
theorem half_sh {i j : Nat} (h : i + j ≤ 1000) : vbin T .shr 53 (.int .u64 ((i + j : Nat) : Int)) (.int .u64 1) = some (.int .u64 (((i + j) / 2 : Nat) : Int)) := by
  simp only [vbin, shiftBin]
  rw [if_neg (by decide)]
  have : (2 : Int) ^ min (Int.toNat 1) IntKind.u64.bits = 2 := by decide
  rw [this, Int.fdiv_eq_ediv_of_nonneg _ (by decide)]
  congr 2
theorem u64_small {n : Nat} (h : n ≤ 1000) : IntKind.u64.wrap (n : Int) = n := by
  unfold IntKind.wrap
  simp only [IntKind.bits, IntKind.signed, Bool.false_and, Bool.false_eq_true, if_false, Int.reducePow]
  omega

theorem search_ (H : Heap) (v : V) (es : List Ent) (id : Int) (hx : Sl 3 entC H v es) (hs : Store es) :
    Call Tryz.prog 167 [v, .int .i64 id, .fn 168 []] H (.tup [.int .i64 (lowN es id : Int), .bool (isN es id)]) H := by
  refine call_pure fit mixed Tryz.func167 rfl rfl rfl (by kernel_rfl) rfl fun hM => ?_
  obtain ⟨n, hn⟩ : ∃ n, es.length = n := ⟨_, rfl⟩
  have hn64 := hs.len
  have hlen := hx.len T57 rfl
  rw [hn] at hlen hn64
  obtain ⟨l, hl⟩ : ∃ l, lowN es id = l := ⟨_, rfl⟩
  have hln : l ≤ n := by rw [← hl, ← hn]; exact lowN_le es id
  refine goM ?_
  refine wq_loop (fun c ρ h => ∃ i j : Nat, i ≤ l ∧ l ≤ j ∧ j ≤ n ∧ c = j - i ∧ h = H ∧ ρ 0 = v ∧ ρ 1 = .int .i64 id ∧ ρ 2 = .fn 168 [] ∧ ρ 8 = .int .i64 (n : Int) ∧ ρ 9 = .int .i64 (i : Int) ∧ ρ 10 = .int .i64 (j : Int)) ⟨0, n, Nat.zero_le _, hln, Nat.le_refl _, rfl, rfl, rfl, rfl, rfl, rfl, rfl, rfl⟩ ?_
  clear hM
  rintro _ ρ h ⟨i, j, hi, hj, hjn, rfl, rfl, g0, g1, g2, g8, g9, g10⟩
  refine goM ?_
  refine cond_go (fun hb => ?_) (fun hb => ?_)
  · have hij : i < j := by simpa using hb
    clear hb
    obtain ⟨m, hm⟩ : ∃ m, (i + j) / 2 = m := ⟨_, rfl⟩
    have hm1 : i ≤ m := by omega
    have hm2 : m < j := by omega
    have w1 : IntKind.i64.wrap ((i : Int) + (j : Int)) = ((i + j : Nat) : Int) := by rw [wrap_i64 (by omega) (by omega)]; omega
    have w2 := u64_small (n := i + j) (by omega)
    have hsh := half_sh (i := i) (j := j) (by omega)
    rw [hm] at hsh
    have w3 : IntKind.i64.wrap (m : Int) = m := wrap_nat (by omega)
    have w4 := wrap_succ (n := m) (by omega)
    obtain ⟨e, he⟩ : ∃ e, es[m]? = some e := ⟨es[m]'(by omega), by simp⟩
    obtain ⟨b, o, hie, hlo, _⟩ := ent_at hx he
    have c1 := find1_ h e id
    have hlow : decide (cmpI e.id id < 0) = decide (m < l) := by
      by_cases hml : m < l
      · have : e.id < id := lowN_lt (by omega) he
        unfold cmpI
        rw [if_pos this, decide_eq_true hml]; rfl
      · have : e.id ≥ id := lowN_ge hs (by omega) he
        have : 0 ≤ cmpI e.id id := by unfold cmpI; rw [if_neg (by omega)]; split <;> omega
        rw [decide_eq_false hml, decide_eq_false (by omega)]
    by_cases hml : m < l
    · have e2 := decide_eq_true hml
      rw [e2] at hlow
      clear he hm e2 hlen
      repeat (first | (refine l_pl ?_; refine l_step (s_bin eLk eLk hsh) ?_) | (refine l_pl ?_; refine l_goM ?_) | (refine d_pl ?_; refine d_goM ?_) | (refine l_gd ?_; first | refine l_onG ?_ | refine l_offG ?_ | refine l_offU ?_) | (refine d_gd ?_; first | refine d_onG ?_ | refine d_offG ?_ | refine d_offU ?_) | (refine cond_pl ?_; first | refine cond_yes ?_ | refine cond_no ?_) | refine wq_seq ?_ | refine wq_line ?_ | refine wq_draw (by decide +kernel) ?_ | refine wq_block ?_ | refine l_nil ?_ | refine d_nil ?_ | refine wq_skip ?_ | refine wq_ret ?_ | refine wq_exit ?_ | refine th_normal ?_ | refine th_ret ?_ | refine th_exit ?_ | refine bk_normal ?_ | refine bk_ret ?_ | refine bk_exit ?_ | refine bk_other rfl ?_)
      refine l_callG c1 ?_
      refine goM ?_
      exact ⟨j - (m + 1), by omega, m + 1, j, hml, hj, hjn, rfl, rfl, by simp [put_app, put_none, *]⟩
    · have e2 := decide_eq_false hml
      rw [e2] at hlow
      have hlm : l ≤ m := by omega
      have hmn : m ≤ n := by omega
      clear he hm e2 hlen hml
      repeat (first | (refine l_pl ?_; refine l_step (s_bin eLk eLk hsh) ?_) | (refine l_pl ?_; refine l_goM ?_) | (refine d_pl ?_; refine d_goM ?_) | (refine l_gd ?_; first | refine l_onG ?_ | refine l_offG ?_ | refine l_offU ?_) | (refine d_gd ?_; first | refine d_onG ?_ | refine d_offG ?_ | refine d_offU ?_) | (refine cond_pl ?_; first | refine cond_yes ?_ | refine cond_no ?_) | refine wq_seq ?_ | refine wq_line ?_ | refine wq_draw (by decide +kernel) ?_ | refine wq_block ?_ | refine l_nil ?_ | refine d_nil ?_ | refine wq_skip ?_ | refine wq_ret ?_ | refine wq_exit ?_ | refine th_normal ?_ | refine th_ret ?_ | refine th_exit ?_ | refine bk_normal ?_ | refine bk_ret ?_ | refine bk_exit ?_ | refine bk_other rfl ?_)
      refine l_callG c1 ?_
      refine goM ?_
      exact ⟨m - i, by omega, i, m, hi, hlm, hmn, rfl, rfl, by simp [put_app, put_none, *]⟩
  · have hij : ¬ i < j := by simpa using hb
    clear hb
    obtain rfl : i = l := by omega
    unfold isN
    rw [hl]
    by_cases hin : i < n
    · obtain ⟨e, he⟩ : ∃ e, es[i]? = some e := ⟨es[i]'(by omega), by simp⟩
      obtain ⟨b, o, hie, hlo, _⟩ := ent_at hx he
      have c1 := find1_ h e id
      have hd : decide ((i : Int) < (n : Int)) = true := decide_eq_true (by omega)
      have heq : (cmpI e.id id == 0) = decide (e.id = id) := by
        unfold cmpI
        by_cases h1 : e.id < id
        · rw [if_pos h1, decide_eq_false (by omega)]; rfl
        · rw [if_neg h1]
          by_cases h2 : e.id > id
          · rw [if_pos h2, decide_eq_false (by omega)]; rfl
          · rw [if_neg h2, decide_eq_true (by omega)]; rfl
      rw [he]
      clear hl hln hi hj hij hin he hlen
      refine goM ?_
      refine l_callG c1 ?_
      refine goM ?_
      exact end_2 (by first | exact .inl rfl | exact .inr rfl) ⟨rfl, List.prefix_refl _⟩
    · have hd : decide ((i : Int) < (n : Int)) = false := decide_eq_false (by omega)
      rw [List.getElem?_eq_none (by omega)]
      clear hl hln hi hj hij hin hlen
      refine goM ?_
      exact end_2 (by first | exact .inl rfl | exact .inr rfl) ⟨rfl, List.prefix_refl _⟩

theorem find_ (H : Heap) (v : V) (es : List Ent) (id : Int) (hx : Sl 3 entC H v es) (hs : Store es) :
    Call Tryz.prog 146 [v, .int .i64 id] H (.tup [.int .i64 (lowN es id : Int), .bool (isN es id)]) H := by
  refine call_pure fit mixed Tryz.func146 rfl rfl rfl (by kernel_rfl) rfl fun hM => ?_
  refine goM ?_
  refine l_callG (search_ H v es id hx hs) ?_
  refine goM ?_
  exact end_2 (by first | exact .inl rfl | exact .inr rfl) ⟨rfl, List.prefix_refl _⟩
/-- the search finds the number's own place -/
theorem find_some {es : List Ent} (hs : Store es) {id : Int} (h : isN es id = true) : ∃ e, es[lowN es id]? = some e ∧ e.id = id ∧ findN es id = lowN es id := by
  unfold isN at h
  split at h
  · cases h
  · rename_i e he
    have hid : e.id = id := by simpa using h
    refine ⟨e, he, hid, ?_⟩
    have hlt := (List.getElem?_eq_some_iff.1 he).1
    unfold findN
    rw [List.findIdx_eq hlt]
    have hel : es[lowN es id] = e := by rw [List.getElem?_eq_getElem hlt] at he; exact Option.some.inj he
    refine ⟨by rw [hel]; exact decide_eq_true hid, fun j hj => ?_⟩
    have := lowN_lt hj (e := es[j]'(by omega)) (by simp)
    simp; omega
theorem find_none {es : List Ent} (hs : Store es) {id : Int} (h : isN es id = false) : es[findN es id]? = none := by
  rw [List.getElem?_eq_none_iff]
  apply Nat.le_of_not_lt
  intro hlt
  have hx : es[findN es id]? = some (es[findN es id]) := by simp [hlt]
  have hid : (es[findN es id]).id = id := by
    have := List.findIdx_getElem (xs := es) (p := fun e : Ent => decide (e.id = id)) (w := hlt)
    exact of_decide_eq_true this
  have hle : lowN es id ≤ findN es id := by
    apply Nat.le_of_not_lt
    intro h1
    have := lowN_lt h1 hx
    omega
  rcases Nat.lt_or_eq_of_le hle with h1 | h1
  · have hy : es[lowN es id]? = some (es[lowN es id]'(by omega)) := by simp
    have h2 := lowN_at hy
    have h3 := hs.up _ _ _ _ h1 hy hx
    omega
  · unfold isN at h
    rw [h1, hx] at h
    simp [hid] at h

theorem okAt_zero {es : List Ent} {e : Ent} (h : es[0]? = some e) : okAt es 0 = (entOk e && decide (holdsN es e.tx = 0)) := by
  unfold okAt; rw [h]; simp
theorem okAt_succ {es : List Ent} {e p : Ent} {k : Nat} (h : es[k + 1]? = some e) (hp : es[k]? = some p) : okAt es (k + 1) = ((entOk e && decide (p.id < e.id)) && decide (holdsN es e.tx = k + 1)) := by
  unfold okAt; rw [h]; simp only [hp]
theorem may_fail {es : List Ent} {k : Nat} (hk : k < es.length) (h : okAt es k = false) : storeMay es = false := by
  rw [Bool.eq_false_iff]; intro hm
  unfold storeMay at hm
  simp only [Bool.and_eq_true, decide_eq_true_eq, List.all_eq_true, List.mem_range] at hm
  rw [hm.2 k hk] at h; cases h
theorem holdsR_own {es : List Ent} {k : Nat} {e : Ent} (h : es[k]? = some e) : holdsR es e.tx = (holdsN es e.tx : Int) := by
  unfold holdsR
  rw [if_pos ?_]
  apply Nat.lt_of_le_of_lt _ (List.getElem?_eq_some_iff.1 h).1
  apply Nat.le_of_not_lt
  intro hlt
  have := holdsN_lt hlt h
  rw [txEq_self] at this; cases this

theorem storeMay_ (H : Heap) (v : V) (es : List Ent) (hx : Sl 3 entC H v es) (hl : es.length ≤ 2 ^ 47) : Call Tryz.prog 69 [v] H (.bool (storeMay es)) H := by
  refine call_pure fit mixed Tryz.func69 rfl rfl rfl (by kernel_rfl) rfl fun hM => ?_
  obtain ⟨n, hn⟩ : ∃ n, es.length = n := ⟨_, rfl⟩
  have hlen := hx.len T57 rfl
  rw [hn] at hlen
  by_cases h64 : 64 < n
  · have d : decide ((n : Int) > 64) = true := decide_eq_true (by omega)
    have hres : storeMay es = false := by
      rw [Bool.eq_false_iff]; intro hm
      have := (store_of hm).len
      omega
    rw [hres]
    clear h64 hres
    refine goM ?_
    exact end_1 (by first | exact .inl rfl | exact .inr rfl) ⟨rfl, List.prefix_refl _⟩
  have d : decide ((n : Int) > 64) = false := decide_eq_false (by omega)
  refine goM ?_
  clear d
  refine wq_loop (fun c ρ h => ∃ k : Nat, k ≤ n ∧ c = n - k ∧ h = H ∧ (∀ j, j < k → okAt es j = true) ∧ ρ 0 = v ∧ ρ 8 = .int .i64 (n : Int) ∧ ρ 9 = .int .i64 (k : Int)) ⟨0, Nat.zero_le _, rfl, rfl, by intro j hj; omega, rfl, rfl, rfl⟩ ?_
  clear hM
  rintro _ ρ h ⟨k, hk, rfl, rfl, hgood, g0, g8, g9⟩
  refine goM ?_
  refine cond_go (fun hb => ?_) (fun hb => ?_)
  · have hk' : k < n := by simpa using hb
    clear hb
    obtain ⟨e, he⟩ : ∃ e, es[k]? = some e := ⟨es[k]'(by omega), by simp⟩
    obtain ⟨b, o, hie, hlo, l0, l1, l2⟩ := ent_at hx he
    have c1 := entry_ h b o e l0 l1 l2
    have c2 := holds_ h v es e.tx hx hl
    rw [holdsR_own he] at c2
    have hw := wrap_succ (n := k) (by omega)
    have hfail := fun hq => may_fail (es := es) (k := k) (by omega) hq
    have hne : (((holdsN es e.tx : Nat) : Int) != (k : Int)) = !decide (holdsN es e.tx = k) := by
      by_cases hq : holdsN es e.tx = k
      · rw [decide_eq_true hq, hq]; simp
      · rw [decide_eq_false hq]; simp; omega
    obtain ⟨hN, hhN⟩ : ∃ x, ((holdsN es e.tx : Nat) : Int) = x := ⟨_, rfl⟩
    rw [hhN] at c2 hne
    have hnext : okAt es k = true → ∀ j, j < k + 1 → okAt es j = true := fun ho j hj => by
      rcases Nat.lt_or_eq_of_le (Nat.le_of_lt_succ hj) with h1 | h1
      · exact hgood j h1
      · subst h1; exact ho
    cases k with
    | zero =>
      have hoe := okAt_zero he
      have z0 : decide (((0 : Nat) : Int) > 0) = false := by decide
      obtain ⟨q1, e1⟩ : ∃ q, entOk e = q := ⟨_, rfl⟩
      obtain ⟨q3, e3⟩ : ∃ q, decide (holdsN es e.tx = 0) = q := ⟨_, rfl⟩
      rw [e1, e3] at hoe
      rw [e3] at hne
      rw [e1] at c1
      clear e1 e3 hhN hgood he hlo l2 hlen
      cases q1 with
      | false =>
        rw [hfail hoe]
        clear hfail hnext hne
        refine goM ?_
        refine d_call0G c1 ?_
        refine goM ?_
        exact end_1 (by first | exact .inl rfl | exact .inr rfl) ⟨rfl, List.prefix_refl _⟩
      | true =>
        cases q3 with
        | false =>
          rw [hfail hoe]
          clear hfail hnext
          refine goM ?_
          refine d_call0G c1 ?_
          refine goM ?_
          refine d_call0G c2 ?_
          refine goM ?_
          exact end_1 (by first | exact .inl rfl | exact .inr rfl) ⟨rfl, List.prefix_refl _⟩
        | true =>
          have hg := hnext hoe
          clear hfail hnext hoe
          refine goM ?_
          refine d_call0G c1 ?_
          refine goM ?_
          refine d_call0G c2 ?_
          refine goM ?_
          exact ⟨n - 1, by omega, 1, hk', rfl, rfl, hg, by simp [put_app, put_none, *]⟩
    | succ k =>
      obtain ⟨p, hp⟩ : ∃ p, es[k]? = some p := ⟨es[k]'(by omega), by simp⟩
      obtain ⟨b2, o2, hip, _, m0, _⟩ := ent_at hx hp
      have hoe := okAt_succ he hp
      have z0 : decide (((k + 1 : Nat) : Int) > 0) = true := decide_eq_true (by omega)
      have wk : IntKind.i64.wrap (((k + 1 : Nat) : Int) - 1) = (k : Int) := by rw [wrap_i64 (by omega) (by omega)]; omega
      have hcmp : decide (p.id ≥ e.id) = !decide (p.id < e.id) := by apply Bool.eq_iff_iff.2; simp
      obtain ⟨q1, e1⟩ : ∃ q, entOk e = q := ⟨_, rfl⟩
      obtain ⟨q2, e2⟩ : ∃ q, decide (p.id < e.id) = q := ⟨_, rfl⟩
      obtain ⟨q3, e3⟩ : ∃ q, decide (holdsN es e.tx = k + 1) = q := ⟨_, rfl⟩
      rw [e1, e2, e3] at hoe
      rw [e3] at hne
      rw [e1] at c1
      rw [e2] at hcmp
      clear e1 e2 e3 hhN hgood he hp hlo l2 hlen
      cases q1 with
      | false =>
        rw [hfail hoe]
        clear hfail hnext hne hcmp
        refine goM ?_
        refine d_call0G c1 ?_
        refine goM ?_
        exact end_1 (by first | exact .inl rfl | exact .inr rfl) ⟨rfl, List.prefix_refl _⟩
      | true =>
        cases q2 with
        | false =>
          rw [hfail hoe]
          clear hfail hnext hne
          refine goM ?_
          refine d_call0G c1 ?_
          refine goM ?_
          exact end_1 (by first | exact .inl rfl | exact .inr rfl) ⟨rfl, List.prefix_refl _⟩
        | true =>
          cases q3 with
          | false =>
            rw [hfail hoe]
            clear hfail hnext
            refine goM ?_
            refine d_call0G c1 ?_
            refine goM ?_
            refine d_call0G c2 ?_
            refine goM ?_
            exact end_1 (by first | exact .inl rfl | exact .inr rfl) ⟨rfl, List.prefix_refl _⟩
          | true =>
            have hg := hnext hoe
            clear hfail hnext hoe
            refine goM ?_
            refine d_call0G c1 ?_
            refine goM ?_
            refine d_call0G c2 ?_
            refine goM ?_
            exact ⟨n - (k + 1 + 1), by omega, k + 1 + 1, hk', rfl, rfl, hg, by simp [put_app, put_none, *]⟩
  · have hk' : k = n := by have : ¬ k < n := by simpa using hb
                           omega
    subst hk'
    have hres : storeMay es = true := by
      unfold storeMay
      simp only [Bool.and_eq_true, decide_eq_true_eq, List.all_eq_true, List.mem_range]
      exact ⟨by omega, fun i hi => hgood i (by omega)⟩
    rw [hres]
    clear hb hres hgood
    refine goM ?_
    exact end_1 (by first | exact .inl rfl | exact .inr rfl) ⟨rfl, List.prefix_refl _⟩
end Go.Proofs.YtengdmagaeckoaaGreat.VM

/- slices.Insert of one entry: where there is room and it is not at the end. -/
namespace Go.Proofs.YtengdmagaeckoaaGreat.VM
open Go Go.RowKit Go.Lib
set_option linter.unusedVariables false
set_option linter.unusedSimpArgs false
set_option maxHeartbeats 8000000

set_option maxRecDepth 100000 in
theorem insert_walk (B o n c i B2 o2 c2 : Nat) (w w1 w2 : World) (hi : i < n) (hn : n ≤ 64) (hc : n + 1 ≤ c)
    (hov : ∀ lb cb, (callFunc 141 #[.slice (some ⟨B2, o2, none⟩) 1 c2, .slice (some ⟨B, o + (i + 1) * 3, none⟩) lb cb]).run Tryz.prog w = .ok (.value (.bool false)) w)
    (hcp1 : ∀ ty, (Builtin.copy_ #[57, 57] ty #[.slice (some ⟨B, o + (i + 1) * 3, none⟩) (n - i) (c - (i + 1)), .slice (some ⟨B, o + i * 3, none⟩) (n + 1 - i) (c - i)]).run Tryz.prog w.drew = .ok (.int .i64 (n - i : Nat)) w1)
    (hcp2 : ∀ ty, (Builtin.copy_ #[57, 57] ty #[.slice (some ⟨B, o + i * 3, none⟩) (n + 1 - i) (c - i), .slice (some ⟨B2, o2, none⟩) 1 c2]).run Tryz.prog w1 = .ok (.int .i64 1) w2) :
    Calls Tryz.prog 103 #[.slice (some ⟨B, o, none⟩) n c, .int .i64 i, .slice (some ⟨B2, o2, none⟩) 1 c2] w fun e w' => e = .returned (.slice (some ⟨B, o, none⟩) (n + 1) c) ∧ w' = w2 := by
  have hz2 : ¬ ((i : Int) = (n : Int)) := by omega
  have hw1 : IntKind.i64.wrap ((i : Int) + 1) = (i : Int) + 1 := wrap_i64 (by omega) (by omega)
  have hw2 : IntKind.i64.wrap ((n : Int) + 1) = (n : Int) + 1 := wrap_i64 (by omega) (by omega)
  have hb3 : (i : Int) ≤ (n : Int) + 1 := by omega
  have hin : i ≤ n := by omega
  have hb1 : (0 : Int) ≤ (i : Int) + 1 := by omega
  have hb2 : ¬ (c = i + 1) := by omega
  have hb4 : ¬ (c = i) := by omega
  have htn : ((i : Int) + 1).toNat = i + 1 := by omega
  go_enter Tryz.func103, Tryz.ntmps103
  go_wp2_with (simp only [hov])
  have mixed' := mixed
  go_region_law_o (refine step_copy_runI rfl _ _ 57 57 rfl _ _ (by simp [Act.eval, Act.put]) (by simp [Act.eval, Act.put]) (hcp1 _) ?_)
  go_wp2_with (at_builtin; refine wpList_copy_runI _ rfl _ _ 57 57 rfl _ _ rfl rfl (hcp2 _) ?_)
  go_ret
  exact ⟨rfl, rfl⟩
end Go.Proofs.YtengdmagaeckoaaGreat.VM

/- slices.Insert of one entry that is not at the end: its contract. -/
namespace Go.Proofs.YtengdmagaeckoaaGreat.VM
open Go
set_option linter.unusedVariables false
set_option linter.unusedSimpArgs false
attribute [local irreducible] wq wqL wqD wqE wqO Th Bk EndR
set_option maxHeartbeats 8000000

/-- the cells behind an insertion -/
def insCells (cs ds : List V) (i n : Nat) : List V := cs.take (i * 3) ++ ds ++ (cs.drop (i * 3)).take ((n - i) * 3)

theorem Cells.drop {α : Type} {sz : Nat} {R : List V → α → Prop} {cs : List V} {xs : List α} (h : Cells sz R cs xs) (n : Nat) (hn : n ≤ xs.length) : Cells sz R (cs.drop (n * sz)) (xs.drop n) := by
  refine ⟨by rw [List.length_drop, List.length_drop, h.1, Nat.sub_mul], fun k x hk => ?_⟩
  rw [List.getElem?_drop] at hk
  have := h.2 _ x hk
  rw [List.drop_drop, ← Nat.add_mul]
  exact this
theorem ins_cells {cs : List V} {es : List Ent} {e : Ent} {i : Nat} (h : At0 3 entC cs es) (hi : i ≤ es.length) : Cells 3 entC (insCells cs (entV e) i es.length) (es.take i ++ e :: es.drop i) := by
  have h1 := h.2.take i hi
  have h2 := h.2.drop i hi
  have e1 : (cs.take (es.length * 3)).take (i * 3) = cs.take (i * 3) := by rw [List.take_take, Nat.min_eq_left (Nat.mul_le_mul_right _ hi)]
  have e2 : (cs.take (es.length * 3)).drop (i * 3) = (cs.drop (i * 3)).take ((es.length - i) * 3) := by rw [List.drop_take, Nat.sub_mul]
  rw [e1] at h1
  rw [e2] at h2
  unfold insCells
  rw [List.append_assoc]
  exact h1.app (Cells.cons (x := e) rfl rfl h2)

theorem shape_of {w : World} {B j : Nat} {cv : Value} (h : w.cell? ⟨B, j, none⟩ = some cv) : ∃ t k, w.shape? B = some (t, k) ∧ j < k := by
  unfold World.cell? at h
  unfold World.shape?
  split at h
  · rename_i c e fr he
    simp only [Option.isSome_none, Bool.false_eq_true, if_false] at h
    simp only at he
    rw [he]
    exact ⟨e, c.size, rfl, (Array.getElem?_eq_some_iff.1 h).1⟩
  · cases h

theorem entry_fit : ∃ q, Tryz.prog.info? 76 = some q ∧ q.size = 3 := by
  obtain ⟨q, z, hq, q1, _⟩ := (fit _ _ T76).info
  exact ⟨q, hq, q1⟩
theorem ents_und : Tryz.prog.underlying 57 = some (.slice 76) := (fit _ _ T57).kind

/-- the road with room -/
theorem insert_shift {μ : Mu} {H : Heap} {w : World} (s : Sim μ H w) {b b2 : Nat} {cs ds : List V} {n i c cap2 : Nat} {t2 : Bool} {cu : Value} {x : Loc} (hx : μ b = some x) (hb : H[b]? = some (.row cs true)) (hcs : n * 3 ≤ cs.length) (hi : i < n) (hn : n ≤ 64) (hc : n + 1 ≤ c) (hxn : c * 3 ≤ x.n)
    (hu : VR μ (.slc b2 0 1 cap2 t2 3) cu) (hb2 : H[b2]? = some (.row ds true)) (hds : 3 ≤ ds.length) (hcap2 : 1 ≤ cap2) (hne : b ≠ b2) :
    Calls Tryz.prog 103 #[.slice (some ⟨x.B, x.o, none⟩) n c, .int .i64 i, cu] w fun e w' => ∃ cv μ', e = .returned cv ∧ VR μ' (.slc H.length 0 (n + 1) (n + 1) false 3) cv ∧ Sim μ' (H.set b .dead ++ [Blk.row (insCells cs (ds.take 3) i n) true]) w' ∧ Tr μ H w μ' (H.set b .dead ++ [Blk.row (insCells cs (ds.take 3) i n) true]) w' := by
  obtain ⟨q, hq, hq3⟩ := entry_fit
  have hu0 := hu
  simp only [VR] at hu
  obtain ⟨a2, c2, rfl, k1, k2, k3, k45⟩ := hu
  rcases k45 with ⟨_, q2⟩ | ⟨x2, oo, hx2, rfl, k4, k5⟩
  · omega
  obtain rfl := k5 (by omega)
  obtain ⟨e1, e2⟩ := s.ext b x cs true hx hb
  obtain ⟨f1, f2⟩ := s.ext b2 x2 ds true hx2 hb2
  have hB : x2.B ≠ x.B := s.sole b x _ hx hb rfl b2 x2 _ (fun e => hne e.symm) hx2 hb2 (by simp)
  -- overlaps
  obtain ⟨u2, hu2⟩ := f2 0 (by omega)
  obtain ⟨tA, kA, hsa, hka⟩ := shape_of hu2
  obtain ⟨u1, hu1⟩ := e2 0 (by omega)
  obtain ⟨tB, kB, hsb, hkb⟩ := shape_of hu1
  have hfa : w.frozen? ⟨x2.B, x2.o + 0, none⟩ = false := s.free b2 x2 ds hx2 hb2 0
  have hfe : w.frozen? ⟨x2.B, kA, none⟩ = false := by
    have := s.free b2 x2 ds hx2 hb2 (kA - x2.o)
    rwa [show x2.o + (kA - x2.o) = kA by omega] at this
  have hov : ∀ lb cb, (callFunc 141 #[.slice (some ⟨x2.B, x2.o + 0, none⟩) 1 c2, .slice (some ⟨x.B, x.o + (i + 1) * 3, none⟩) lb cb]).run Tryz.prog w = .ok (.value (.bool false)) w := fun lb cb => by
    rw [run_callFunc_extern Tryz.func141 (by kernel_rfl) (by kernel_rfl) (by kernel_rfl) (e := Extern.SlicesOverlaps.overlaps #[57, 57] #[4]) (by kernel_rfl),
      Lib.run_overlaps_apart w 57 4 76 ents_und 3 (fun w => by rw [run_size hq, hq3]) ⟨x2.B, x2.o + 0, none⟩ ⟨x.B, x.o + (i + 1) * 3, none⟩ 1 c2 lb cb hB tA tB kA kB hsa hsb (by omega) hfa hfe]
    rfl
  -- the first copy
  have hm1 : (i + 1) * 3 ≤ n * 3 := Nat.mul_le_mul_right _ hi
  have hm2 : (n - i) * 3 = n * 3 - i * 3 := Nat.sub_mul ..
  have hm3 : (n + 1) * 3 ≤ c * 3 := Nat.mul_le_mul_right _ hc
  have hm4 : (c - i) * 3 = c * 3 - i * 3 := Nat.sub_mul ..
  have hl : H.loadN b (i * 3) ((n - i) * 3) = some ((cs.drop (i * 3)).take ((n - i) * 3)) := by
    unfold Heap.loadN
    rw [hb]
    simp only
    rw [if_pos (by omega)]
  have hv1 : VR μ (.slc b (i * 3) (n + 1 - i) (n + 1 - i) false 3) (.slice (some ⟨x.B, x.o + i * 3, none⟩) (n + 1 - i) (c - i)) := by
    simp only [VR]
    exact ⟨_, c - i, rfl, Nat.le_refl _, by omega, nofun, .inr ⟨x, i * 3, hx, rfl, by omega, fun _ => rfl⟩⟩
  obtain ⟨ws, g1, g2, g3⟩ := firstCells_sound (P := Tryz.prog) (n := n - i) (size := 3) s.drew hv1 (by omega) (.inl hl)
  have hwl : ws.size = (n - i) * 3 := by
    have := g2.length
    simp only [Array.length_toList, List.length_take, List.length_drop] at this
    omega
  have hws1 : ∀ v ∈ ws.toList, v.oneCell' = true := fun v hv => by
    obtain ⟨j, hj⟩ := List.mem_iff_getElem?.1 hv
    have hjl := (List.getElem?_eq_some_iff.1 hj).1
    obtain ⟨y, hy⟩ : ∃ y, ((cs.drop (i * 3)).take ((n - i) * 3))[j]? = some y := ⟨_, List.getElem?_eq_getElem (by have := g2.length; omega)⟩
    obtain ⟨u, hu', hr'⟩ := g2.get hy
    rw [hj] at hu'
    cases hu'
    exact one' hr' (g3 _ (List.mem_of_getElem? hy))
  obtain ⟨w1, r1, r2, r3, r4, r5, r6, r7, r8, r9, r10⟩ := run_storeCells_ext Tryz.prog x.B ws.toList (x.o + (i + 1) * 3) 0 w.drew hws1 (fun j _ hj => by
    have hj' : j < (n - i) * 3 := by rw [← hwl]; simpa using hj
    rw [show x.o + (i + 1) * 3 + j = x.o + ((i + 1) * 3 + j) by omega]
    exact ⟨e2 _ (by omega), s.free b x cs hx hb _⟩)
  have hcp1 : ∀ ty, (Builtin.copy_ #[57, 57] ty #[.slice (some ⟨x.B, x.o + (i + 1) * 3, none⟩) (n - i) (c - (i + 1)), .slice (some ⟨x.B, x.o + i * 3, none⟩) (n + 1 - i) (c - i)]).run Tryz.prog w.drew = .ok (.int .i64 (n - i : Nat)) w1 := fun ty => by
    have hlenOf : (Builtin.lenOf (.slice (some ⟨x.B, x.o + i * 3, none⟩) (n + 1 - i) (c - i))).run Tryz.prog w.drew = .ok (n + 1 - i) w.drew := rfl
    have hmin : Nat.min (n + 1 - i) (n - i) = n - i := Nat.min_eq_right (by omega)
    unfold Builtin.copy_
    simp only [List.getElem?_toArray, List.getElem?_cons_zero, List.getElem?_cons_succ, run_und ents_und, Sem.run_bind, Result.andThen_ok, hlenOf, Sem.run_pure, run_size hq, hq3, hmin]
    rw [g1 w.drew rfl]
    simp only [Result.andThen_ok, r1, Sem.run_bind, Sem.run_pure]
    rfl
  -- behind it
  obtain ⟨sk, tk⟩ := sim_kill s hb
  obtain ⟨A1, hA1⟩ : ∃ A1, cs.take ((i + 1) * 3) ++ (cs.drop (i * 3)).take ((n - i) * 3) = A1 := ⟨_, rfl⟩
  have hA1l : A1.length = (n + 1) * 3 := by rw [← hA1, List.length_append, List.length_take, List.length_take, List.length_drop]; omega
  have hK : (H.set b Blk.dead).length = H.length := by simp
  have S1 : Sim (μ.put H.length ⟨x.B, x.o + 0, x.n - 0⟩) (H.set b .dead ++ [Blk.row A1 true]) w1 := by
    rw [← hK]
    refine sim_alias sk.drew (s.lt b x hx).2 ?_ r6 r7 (Nat.zero_le _) (by omega) (fun j hj => r5 _ (e2 j hj)) (fun j => by rw [r4]; exact s.free b x cs hx hb j) ?_
    · intro b' x' k' hx' hk hd
      rcases get_set hk with ⟨_, rfl⟩ | ⟨hne', hk'⟩
      · exact absurd rfl hd
      · exact s.sole b x _ hx hb rfl b' x' k' hne' hx' hk' hd
    · intro j v hj
      rw [← hA1] at hj
      by_cases hjl : j < (i + 1) * 3
      · rw [List.getElem?_append_left (by rw [List.length_take]; omega), List.getElem?_take, if_pos hjl] at hj
        obtain ⟨p1, cv, p2, p3⟩ := s.row b x cs true hx hb j v hj
        refine ⟨p1, cv, ?_, p3⟩
        rw [Nat.add_zero, r3 _ (.inl (by omega))]
        exact p2
      · rw [List.getElem?_append_right (by rw [List.length_take]; omega), List.length_take, Nat.min_eq_left (by omega)] at hj
        obtain ⟨u, hu', hr'⟩ := g2.get hj
        refine ⟨g3 v (List.mem_of_getElem? hj), u, ?_, hr'⟩
        have := r2 _ _ hu'
        rw [show x.o + (i + 1) * 3 + (0 + (j - (i + 1) * 3)) = x.o + 0 + j by omega] at this
        exact this
  have hlb : b < H.length := (List.getElem?_eq_some_iff.1 hb).1
  have T1 : Tr μ H w (μ.put H.length ⟨x.B, x.o + 0, x.n - 0⟩) (H.set b .dead ++ [Blk.row A1 true]) w1 := by
    refine ⟨Mu.le_put _ s.none_len, fun b' x' hx' hno => ?_, fun b' k hk => ?_, by rw [r7]; exact Nat.le_refl _, fun B hB' hno => ?_, by rw [r8]; rfl, by rw [r9]; rfl, by rw [r10]; rfl⟩
    · by_cases hb' : b' = H.length
      · subst hb'
        rw [Mu.put_same] at hx'
        obtain rfl := Option.some.inj hx'
        refine ⟨Nat.le_refl _, .inr ⟨b, x, _, hx, rfl, hb, rfl, ?_⟩⟩
        rw [List.getElem?_append_left (by simp [hlb])]
        exact set_get _ hb
      · rw [Mu.put_ne _ hb'] at hx'
        rw [hx'] at hno; cases hno
    · obtain ⟨k', hk', hle⟩ := stay_set hb (k := .dead) (by simp [Blk.Le]) b' k hk
      have hlt : b' < H.length := (List.getElem?_eq_some_iff.1 hk).1
      exact ⟨k', by rw [List.getElem?_append_left (by simp [hlt])]; exact hk', hle⟩
    · rw [r6 B (fun e => hno b x _ hx hb rfl e.symm)]; rfl
  -- the second copy
  have hmu1 : (μ.put H.length ⟨x.B, x.o + 0, x.n - 0⟩) H.length = some ⟨x.B, x.o + 0, x.n - 0⟩ := Mu.put_same _ _ _
  have hd2 : VR (μ.put H.length ⟨x.B, x.o + 0, x.n - 0⟩) (.slc H.length (i * 3) (n + 1 - i) (n + 1 - i) false 3) (.slice (some ⟨x.B, x.o + i * 3, none⟩) (n + 1 - i) (c - i)) := by
    simp only [VR]
    exact ⟨_, c - i, rfl, Nat.le_refl _, by omega, nofun, .inr ⟨_, i * 3, hmu1, rfl, by simp only; omega, fun _ => rfl⟩⟩
  have hg2 : (H.set b .dead ++ [Blk.row A1 true])[b2]? = some (.row ds true) := by
    have hlt : b2 < H.length := (List.getElem?_eq_some_iff.1 hb2).1
    rw [List.getElem?_append_left (by simp [hlt]), List.getElem?_set_ne hne]
    exact hb2
  have hgN : (H.set b .dead ++ [Blk.row A1 true])[H.length]? = some (.row A1 true) := by
    rw [List.getElem?_append_right (by simp)]; simp
  have hl2 : Heap.loadN (H.set b .dead ++ [Blk.row A1 true]) b2 0 (1 * 3) = some (ds.take 3) := by
    unfold Heap.loadN
    rw [hg2]
    simp only
    rw [if_pos (by omega)]; rfl
  have hst2 : Heap.storeN (H.set b .dead ++ [Blk.row A1 true]) H.length (i * 3) (ds.take 3) = some ((H.set b .dead ++ [Blk.row A1 true]).set H.length (Blk.row (setL A1 (i * 3) (ds.take 3)) true)) := by
    unfold Heap.storeN
    rw [hgN]
    simp only
    rw [if_pos (by rw [List.length_take]; omega)]
  have hcv : copyV { k := .strct [], size := 3, bytes := 0, zero := [] } (.slc H.length (i * 3) (n + 1 - i) (n + 1 - i) false 3) (.slc b2 0 1 cap2 t2 3) (H.set b .dead ++ [Blk.row A1 true]) = some (.int .i64 1, (H.set b .dead ++ [Blk.row A1 true]).set H.length (Blk.row (setL A1 (i * 3) (ds.take 3)) true)) := by
    unfold copyV
    have hmin : Nat.min 1 (n + 1 - i) = 1 := Nat.min_eq_left (by omega)
    simp only [hmin]
    rw [if_neg (by decide), hl2]
    simp only
    rw [hst2]
    rfl
  obtain ⟨ie, hie, hisz⟩ : ∃ ie, T 76 = some ie ∧ ie.size = 3 := ⟨_, T76, rfl⟩
  have hcv2 : copyV ie (.slc H.length (i * 3) (n + 1 - i) (n + 1 - i) false 3) (.slc b2 0 1 cap2 t2 3) (H.set b .dead ++ [Blk.row A1 true]) = some (.int .i64 1, (H.set b .dead ++ [Blk.row A1 true]).set H.length (Blk.row (setL A1 (i * 3) (ds.take 3)) true)) := by
    rw [← hcv]
    unfold copyV
    simp only [hisz]
  have hcp2all := fun ty => copy_sound (ty := ty) (t1 := 57) (t2 := 57) fit S1 ents_und hie hd2 (hu0.mono T1.ext) hcv2
  obtain ⟨cv2, w2, μ2, h1, h2, h3, h4⟩ := hcp2all 3
  have hcp2 : ∀ ty, (Builtin.copy_ #[57, 57] ty #[.slice (some ⟨x.B, x.o + i * 3, none⟩) (n + 1 - i) (c - i), .slice (some ⟨x2.B, x2.o + 0, none⟩) 1 c2]).run Tryz.prog w1 = .ok (.int .i64 1) w2 := fun ty => by
    have : cv2 = .int .i64 1 := by simpa only [VR] using h2
    rw [← this]
    exact h1
  have hfin : (H.set b .dead ++ [Blk.row A1 true]).set H.length (Blk.row (setL A1 (i * 3) (ds.take 3)) true) = H.set b .dead ++ [Blk.row (insCells cs (ds.take 3) i n) true] := by
    have hins : setL A1 (i * 3) (ds.take 3) = insCells cs (ds.take 3) i n := by
      have hd3 : (ds.take 3).length = 3 := by rw [List.length_take]; omega
      rw [setL_tail (by rw [hd3]; omega), ← hA1, hd3]
      unfold insCells
      rw [List.take_append_of_le_length (by rw [List.length_take]; omega), List.take_take, Nat.min_eq_left (by omega)]
      rw [show i * 3 + 3 = (cs.take ((i + 1) * 3)).length by rw [List.length_take]; omega, List.drop_left]
    rw [hins]
    rw [show H.length = (H.set b Blk.dead).length from hK.symm]
    exact List.set_append_right _ _ (Nat.le_refl _) |>.trans (by rw [Nat.sub_self]; rfl)
  rw [hfin] at h3 h4
  refine (insert_walk x.B x.o n c i x2.B (x2.o + 0) c2 w w1 w2 hi hn hc hov hcp1 hcp2).mono ?_
  rintro e w' ⟨rfl, rfl⟩
  refine ⟨_, μ2, rfl, ?_, h3, T1.trans h4 (fun b x h => (s.lt b x h).1)⟩
  simp only [VR]
  exact ⟨_, c, rfl, Nat.le_refl _, by omega, nofun, .inr ⟨_, 0, h4.ext _ _ hmu1, rfl, by simp only; omega, fun _ => rfl⟩⟩
end Go.Proofs.YtengdmagaeckoaaGreat.VM

/- slices.Insert of one entry: the road without room; the contract. -/
namespace Go.Proofs.YtengdmagaeckoaaGreat.VM
open Go
set_option linter.unusedVariables false
set_option linter.unusedSimpArgs false
attribute [local irreducible] wq wqL wqD wqE wqO Th Bk EndR
set_option maxHeartbeats 8000000

theorem s_copy {ρ : Rho} {h h' : Heap} {a b v : V} {xs : Array Operand} {t1 t2 e e2 : Nat} {i i2 ie : TI} (hx : evs ρ.ev xs.toList = some [a, b]) (hT : T t1 = some i) (hk : i.k = .slice e) (hE : T e = some ie) (hT2 : T t2 = some i2) (hk2 : i2.k = .slice e2) (hc : copyV ie a b h = some (v, h')) : Does T ρ h (.call { callee := .builtin .copy, args := xs, argTypes := #[t1, t2] }) v h' := by
  obtain ⟨k, size, bytes, zero, cmp⟩ := i
  obtain ⟨k', size', bytes', zero', cmp'⟩ := i2
  simp only at hk hk2
  subst hk; subst hk2
  refine does_mem rfl ?_ ?_
  · simp only [pureOp, hx]; rfl
  · simp only [memOp, hx, hT, hT2, hE]
    exact hc
theorem zero_ent : ∃ ie, T 76 = some ie ∧ ie.size = 3 ∧ ie.zero.length = 3 ∧ ie.bytes = 32 := ⟨_, T76, rfl, rfl, rfl⟩

theorem insert_full (H : Heap) (b b2 n i cap2 : Nat) (t2 : Bool) (cs ds : List V) (hb : H[b]? = some (.row cs true)) (hcs : n * 3 ≤ cs.length) (hi : i < n) (hn : n ≤ 64) (hb2 : H[b2]? = some (.row ds true)) (hds : 3 ≤ ds.length) :
    Call Tryz.prog 103 [.slc b 0 n n true 3, .int .i64 (i : Int), .slc b2 0 1 cap2 t2 3] H (.slc H.length 0 (n + 1) (n + 1) false 3) (H ++ [Blk.row (insCells cs (ds.take 3) i n) true]) := by
  suffices hgoal : ∃ w H', (w = .slc H.length 0 (n + 1) (n + 1) false 3 ∧ H' = H ++ [Blk.row (insCells cs (ds.take 3) i n) true]) ∧ Call Tryz.prog 103 [.slc b 0 n n true 3, .int .i64 (i : Int), .slc b2 0 1 cap2 t2 3] H w H' by
    obtain ⟨w, H', ⟨rfl, rfl⟩, h⟩ := hgoal
    exact h
  refine call_wq fit mixed Tryz.func103 rfl rfl rfl (by kernel_rfl) ?_
  obtain ⟨ie, hie, hsz, hzl, hby⟩ := zero_ent
  have hm1 : (i + 1) * 3 ≤ n * 3 := Nat.mul_le_mul_right _ hi
  have hm2 : (n - i) * 3 = n * 3 - i * 3 := Nat.sub_mul ..
  have c10 : (((1 : Nat) : Int) == 0) = false := by decide
  have wn1' : IntKind.i64.wrap ((n : Int) + ((1 : Nat) : Int)) = ((n + 1 : Nat) : Int) := by rw [wrap_i64 (by omega) (by omega)]; omega
  have wi1' : IntKind.i64.wrap ((i : Int) + ((1 : Nat) : Int)) = ((i + 1 : Nat) : Int) := by rw [wrap_i64 (by omega) (by omega)]; omega
  have hzn : ((n : Int) == (i : Int)) = false := by simp; omega
  have hzi : ((i : Int) == (n : Int)) = false := by simp; omega
  have wn1 : IntKind.i64.wrap ((n : Int) + 1) = ((n + 1 : Nat) : Int) := by rw [wrap_i64 (by omega) (by omega)]; omega
  have wi1 : IntKind.i64.wrap ((i : Int) + 1) = ((i + 1 : Nat) : Int) := by rw [wrap_i64 (by omega) (by omega)]; omega
  have wd : IntKind.i64.wrap (((n + 1 : Nat) : Int) - (i : Int)) = ((n + 1 - i : Nat) : Int) := by rw [wrap_i64 (by omega) (by omega)]; omega
  have hgt : decide (((n + 1 : Nat) : Int) > (n : Int)) = true := decide_eq_true (by omega)
  have s1 : sliceV 3 (.slc b 0 n n true 3) (some (.int .i64 (i : Int))) none none = some (.slc b (i * 3) (n - i) (n - i) true 3) := by
    simp only [sliceV, boundV, Option.isSome_none, Bool.false_and, Bool.false_eq_true, if_false, ne_eq, not_true_eq_false]
    rw [if_pos (by omega)]
    simp
  have s2 : sliceV 3 (.slc b 0 n n true 3) none (some (.int .i64 (i : Int))) none = some (.slc b 0 i n true 3) := by
    simp only [sliceV, boundV, Option.isSome_none, Bool.false_and, Bool.false_eq_true, if_false, ne_eq, not_true_eq_false]
    rw [if_pos (by omega)]
    simp
  obtain ⟨Z, hZ⟩ : ∃ Z, zeros ie.zero (n + 1 - i) = Z := ⟨_, rfl⟩
  have hZl : Z.length = (n + 1 - i) * 3 := by rw [← hZ, zeros_length, hzl]
  have hm3 : (n + 1 - i) * 3 = (n + 1) * 3 - i * 3 := Nat.sub_mul ..
  have hnews : newsOf T ie 3 (.int .i64 ((n + 1 - i : Nat) : Int)) H = some (n + 1 - i, Z) := by
    unfold newsOf
    simp only [T3]
    rw [if_pos ⟨by omega, by rw [hby]; omega, by simp only [IntKind.max, IntKind.signed, IntKind.bits]; simp; omega⟩]
    rw [Int.toNat_natCast, hZ]
  obtain ⟨A0, hA0⟩ : ∃ A0, cs.take (i * 3) ++ Z = A0 := ⟨_, rfl⟩
  have hA0l : A0.length = (n + 1) * 3 := by rw [← hA0, List.length_append, List.length_take, hZl]; omega
  have hload : H.loadN b 0 (i * 3) = some (cs.take (i * 3)) := by
    unfold Heap.loadN
    rw [hb]
    simp only
    rw [if_pos (by omega)]; rfl
  have happ : appendV ie (.slc b 0 i n true 3) (n + 1 - i) Z H = some (.slc H.length 0 (n + 1) (n + 1) false 3, H ++ [Blk.row A0 true]) := by
    unfold appendV
    rw [if_neg (by rw [hZl, hsz]; simp)]
    simp only
    rw [if_neg (by rw [hsz]; simp), if_neg (by omega), if_pos ⟨by rw [hby]; omega, by omega⟩, hsz, hb, hload]
    simp only [if_true, hA0]
    rw [show i + (n + 1 - i) = n + 1 by omega]
  obtain ⟨H1, hH1⟩ : ∃ H1, H ++ [Blk.row A0 true] = H1 := ⟨_, rfl⟩
  rw [hH1] at happ
  have g1 : H1[H.length]? = some (.row A0 true) := by rw [← hH1]; simp
  have hlt1 : H.length < H1.length := (List.getElem?_eq_some_iff.1 g1).1
  have hlb : b < H.length := (List.getElem?_eq_some_iff.1 hb).1
  have hlb2 : b2 < H.length := (List.getElem?_eq_some_iff.1 hb2).1
  have gb1 : H1[b]? = some (.row cs true) := by rw [← hH1, List.getElem?_append_left hlb]; exact hb
  have gb2 : H1[b2]? = some (.row ds true) := by rw [← hH1, List.getElem?_append_left hlb2]; exact hb2
  have s3 : sliceV 3 (.slc H.length 0 (n + 1) (n + 1) false 3) (some (.int .i64 (i : Int))) none none = some (.slc H.length (i * 3) (n + 1 - i) (n + 1 - i) false 3) := by
    simp only [sliceV, boundV, Option.isSome_none, Bool.false_and, Bool.false_eq_true, if_false, ne_eq, not_true_eq_false]
    rw [if_pos (by omega)]
    simp
  have s4 : sliceV 3 (.slc H.length 0 (n + 1) (n + 1) false 3) (some (.int .i64 ((i + 1 : Nat) : Int))) none none = some (.slc H.length ((i + 1) * 3) (n - i) (n - i) false 3) := by
    simp only [sliceV, boundV, Option.isSome_none, Bool.false_and, Bool.false_eq_true, if_false, ne_eq, not_true_eq_false]
    rw [if_pos (by omega)]
    simp [Nat.succ_sub_succ]
  obtain ⟨A1, hA1⟩ : ∃ A1, setL A0 (i * 3) (ds.take 3) = A1 := ⟨_, rfl⟩
  have hA1l : A1.length = (n + 1) * 3 := by rw [← hA1, setL_length]; exact hA0l
  have hd3 : (ds.take 3).length = 3 := by rw [List.length_take]; omega
  have k1 : copyV ie (.slc H.length (i * 3) (n + 1 - i) (n + 1 - i) false 3) (.slc b2 0 1 cap2 t2 3) H1 = some (.int .i64 1, H1.set H.length (.row A1 true)) := by
    unfold copyV
    have hmin : Nat.min 1 (n + 1 - i) = 1 := Nat.min_eq_left (by omega)
    have hl : H1.loadN b2 0 3 = some (ds.take 3) := by
      unfold Heap.loadN
      rw [gb2]
      simp only
      rw [if_pos (by omega)]; rfl
    have hst : H1.storeN H.length (i * 3) (ds.take 3) = some (H1.set H.length (.row A1 true)) := by
      unfold Heap.storeN
      rw [g1]
      simp only
      rw [if_pos (by rw [hd3]; omega), hA1]
    simp only [hmin, hsz, Nat.one_mul]
    rw [if_neg (by decide), hl]
    simp only
    rw [hst]
    rfl
  obtain ⟨H2, hH2⟩ : ∃ H2, H1.set H.length (.row A1 true) = H2 := ⟨_, rfl⟩
  rw [hH2] at k1
  have g2 : H2[H.length]? = some (.row A1 true) := by rw [← hH2, List.getElem?_set_self hlt1]
  have hlt2 : H.length < H2.length := by rw [← hH2, List.length_set]; exact hlt1
  have gc2 : H2[b]? = some (.row cs true) := by rw [← hH2, List.getElem?_set_ne (by omega)]; exact gb1
  obtain ⟨X, hX⟩ : ∃ X, (cs.drop (i * 3)).take ((n - i) * 3) = X := ⟨_, rfl⟩
  have hXl : X.length = (n - i) * 3 := by rw [← hX, List.length_take, List.length_drop]; omega
  have hfin : setL A1 ((i + 1) * 3) X = insCells cs (ds.take 3) i n := by
    rw [← hA1, ← hA0, setL_tail (cs := cs.take (i * 3) ++ Z) (by rw [hd3, hA0, hA0l]; omega)]
    have e1 : (cs.take (i * 3) ++ Z).take (i * 3) = cs.take (i * 3) := by
      rw [List.take_append_of_le_length (by rw [List.length_take]; omega), List.take_take, Nat.min_self]
    rw [e1, hd3]
    have hl1 : (cs.take (i * 3) ++ ds.take 3).length = (i + 1) * 3 := by rw [List.length_append, List.length_take, hd3]; omega
    rw [setL_tail (by rw [List.length_append, hl1, List.length_drop, hA0, hA0l, hXl]; omega)]
    have e2 : (cs.take (i * 3) ++ ds.take 3 ++ (cs.take (i * 3) ++ Z).drop (i * 3 + 3)).take ((i + 1) * 3) = cs.take (i * 3) ++ ds.take 3 := by
      rw [List.take_append_of_le_length (by rw [hl1]; exact Nat.le_refl _), List.take_of_length_le (by rw [hl1]; exact Nat.le_refl _)]
    have e3 : (cs.take (i * 3) ++ ds.take 3 ++ (cs.take (i * 3) ++ Z).drop (i * 3 + 3)).drop ((i + 1) * 3 + X.length) = [] := by
      apply List.drop_eq_nil_of_le
      rw [List.length_append, hl1, List.length_drop, hA0, hA0l, hXl]; omega
    rw [e2, e3, List.append_nil, ← hX]
    rfl
  have k2 : copyV ie (.slc H.length ((i + 1) * 3) (n - i) (n - i) false 3) (.slc b (i * 3) (n - i) (n - i) true 3) H2 = some (.int .i64 ((n - i : Nat) : Int), H2.set H.length (.row (insCells cs (ds.take 3) i n) true)) := by
    unfold copyV
    have hmin : Nat.min (n - i) (n - i) = n - i := Nat.min_self _
    have hl : Heap.loadN H2 b (i * 3) ((n - i) * 3) = some X := by
      unfold Heap.loadN
      rw [gc2]
      simp only
      rw [if_pos (by omega), hX]
    have hst : Heap.storeN H2 H.length ((i + 1) * 3) X = some (H2.set H.length (.row (insCells cs (ds.take 3) i n) true)) := by
      unfold Heap.storeN
      rw [g2]
      simp only
      rw [if_pos (by rw [hXl]; omega), hfin]
    simp only [hmin, hsz]
    rw [if_neg (by omega), hl]
    simp only
    rw [hst]
  have hend : H2.set H.length (.row (insCells cs (ds.take 3) i n) true) = H ++ [Blk.row (insCells cs (ds.take 3) i n) true] := by
    rw [← hH2, List.set_set, ← hH1]
    exact List.set_append_right _ _ (Nat.le_refl _) |>.trans (by rw [Nat.sub_self]; rfl)
  rw [hend] at k2
  clear hend hfin hX hXl g2 hlt2 gc2 hH2 hA1 hA1l hd3 g1 hlt1 gb1 gb2 hH1 hA0 hA0l hload hZ hZl hm1 hm2 hm3 hb hb2 hlb hlb2 hcs hds hi hn hzl hby
  refine goM ?_
  refine l_step (s_append eLk T57 rfl hie hnews happ) ?_
  refine goM ?_
  refine l_step (s_copy eLk T57 rfl hie T57 rfl k1) ?_
  refine goM ?_
  refine d_step (s_copy eLk T57 rfl hie T57 rfl k2) ?_
  refine goM ?_
  refine end_ret (by simp only [resRf, resRs, resR]; first | done | rfl) ⟨?_, rfl⟩
  simp [put_app, put_none]

theorem insert_call (H : Heap) (b b2 n i cap cap2 : Nat) (t t2 : Bool) (cs ds : List V) (hb : H[b]? = some (.row cs true)) (hcs : n * 3 ≤ cs.length) (hi : i < n) (hn : n ≤ 64) (hcap : n ≤ cap) (hb2 : H[b2]? = some (.row ds true)) (hds : 3 ≤ ds.length) (hcap2 : 1 ≤ cap2) (hne : b ≠ b2) :
    Call Tryz.prog 103 [.slc b 0 n cap t 3, .int .i64 (i : Int), .slc b2 0 1 cap2 t2 3] H (.slc H.length 0 (n + 1) (n + 1) false 3) (H.set b .dead ++ [Blk.row (insCells cs (ds.take 3) i n) true]) := by
  have hfull := insert_full H b b2 n i cap2 t2 cs ds hb hcs hi hn hb2 hds
  refine ⟨hfull.1, fun μ w cargs s hv => ?_⟩
  have hv0 := hv
  simp only [VRs] at hv
  obtain ⟨cv, _, he, hcv, ci, _, rfl, hci, cu, _, rfl, hcu, rfl⟩ := hv
  have hcv0 := hcv
  simp only [VR] at hcv hci
  obtain ⟨a, c, rfl, q1, q2, q3, q45⟩ := hcv
  rcases q45 with ⟨_, q4⟩ | ⟨x, o, hx, rfl, q4, q5⟩
  · omega
  obtain rfl := q5 (by omega)
  have hargs : cargs = #[.slice (some ⟨x.B, x.o + 0, none⟩) n c, ci, cu] := arr_of_list he
  subst hci
  by_cases hcn : c = n
  · subst hcn
    have hv2 : VRs μ [.slc b 0 c c true 3, .int .i64 (i : Int), .slc b2 0 1 cap2 t2 3] cargs.toList := by
      rw [he]
      simp only [VRs]
      refine ⟨_, _, rfl, ?_, _, _, rfl, VR.mk_int _ _, _, _, rfl, hcu, rfl⟩
      simp only [VR]
      exact ⟨_, c, rfl, Nat.le_refl _, Nat.le_refl _, fun _ => rfl, .inr ⟨x, 0, hx, rfl, q4, fun _ => rfl⟩⟩
    refine (hfull.2 μ w cargs s hv2).mono ?_
    rintro e w' ⟨cv, μ', rfl, h1, h2, h3⟩
    have hlb : b < H.length := (List.getElem?_eq_some_iff.1 hb).1
    have hb' : (H ++ [Blk.row (insCells cs (ds.take 3) i c) true])[b]? = some (.row cs true) := by rw [List.getElem?_append_left hlb]; exact hb
    obtain ⟨k1, k2⟩ := sim_kill h2 hb'
    have hset : (H ++ [Blk.row (insCells cs (ds.take 3) i c) true]).set b Blk.dead = H.set b .dead ++ [Blk.row (insCells cs (ds.take 3) i c) true] := List.set_append_left _ _ hlb
    rw [hset] at k1 k2
    exact ⟨cv, μ', rfl, h1, k1, h3.trans k2 (fun b x h => (s.lt b x h).1)⟩
  · have := insert_shift s hx hb hcs hi hn (c := c) (by omega) (by omega) hcu hb2 hds hcap2 hne
    rw [hargs]
    exact this

/-- an entry behind the others -/
theorem insert_end_ (B H : Heap) (L : List Res) (f : Res → List Res) (v u : V) (es : List Ent) (e : Ent) (hM : Mem B H L) (hh : Has L (.own 3 entC v es) f) (hu : Sl 3 entC H u [e]) (hl : es.length ≤ 64) :
    ∃ w H', Call Tryz.prog 103 [v, .int .i64 (es.length : Int), u] H w H' ∧ Mem B H' (f (.own 3 entC w (es ++ [e]))) := by
  refine call_turn fit mixed hM Tryz.func103 rfl rfl rfl (by kernel_rfl) fun _ => ?_
  obtain ⟨r, hr, _⟩ := (hM.sl hh).rest (l := es.length) (Nat.le_refl _)
  have hl1 := (hM.sl hh).len T57 rfl
  have hl2 := hu.len T57 rfl
  have c10 : ((([e].length : Nat) : Int) == 0) = false := by simp
  refine goM ?_
  refine l_appM hu (xs := es) (hh := hh) (hb := by simp only [List.length_cons, List.length_nil]; omega) fun w H' hM' => ?_
  refine goM ?_
  exact end_1 (by first | exact .inl rfl | exact .inr rfl) hM'

/-- an entry at its place -/
theorem insert_ (B H : Heap) (L : List Res) (f : Res → List Res) (v u : V) (es : List Ent) (e : Ent) (i : Nat) (hM : Mem B H (.own 3 entC u [e] :: L)) (hh : Has L (.own 3 entC v es) f) (hi : i ≤ es.length) (hl : es.length ≤ 64) :
    ∃ w H', Call Tryz.prog 103 [v, .int .i64 (i : Int), u] H w H' ∧ Mem B H' (.own 3 entC u [e] :: f (.own 3 entC w (es.take i ++ e :: es.drop i))) := by
  have hh' := Has.there (s := Res.own 3 entC u [e]) hh
  rcases Nat.lt_or_ge i es.length with hlt | hge
  · have hv := hM.get hh'
    have hu := hM.get .here
    rcases hv with ⟨_, rfl⟩ | ⟨b, hv⟩
    · simp at hlt
    rcases hu with ⟨_, h⟩ | ⟨b2, hu⟩
    · cases h
    have hbv := hv.blk
    have hbu := hu.blk
    have hne : b ≠ b2 := fun e0 => by
      subst e0
      have hmem : Res.own 3 entC v es ∈ L := by
        obtain ⟨L1, L2, rfl, _⟩ := hh.parts
        simp
      exact (List.pairwise_cons.1 hM.sep).1 _ hmem b hbu hbv
    obtain ⟨cap, t, cs, rfl, h1, h2, h3, h4⟩ := hv
    obtain ⟨cap2, t2, ds, rfl, g1, g2, g3, g4⟩ := hu
    have hlb : b < H.length := (List.getElem?_eq_some_iff.1 h2).1
    have hd : ds.take 3 = entV e := by
      have := g4.cell (k := 0) (x := e) rfl
      simpa [entC] using this
    have hds : 3 ≤ ds.length := by have := g4.1; simpa using this
    have hc := insert_call H b b2 es.length i cap cap2 t t2 cs ds h2 (by have := h4.1; omega) hlt hl h1 g2 hds g1 hne
    rw [hd] at hc
    refine ⟨_, _, hc, ?_⟩
    have hcells := ins_cells (e := e) h4 hi
    have hnl : (es.take i ++ e :: es.drop i).length = es.length + 1 := by simp; omega
    refine hM.turn hh' (by simp) (fun c hc hno => ?_) (.inr ⟨H.length, es.length + 1, false, _, by rw [hnl], by rw [hnl]; exact Nat.le_refl _, by rw [List.getElem?_append_right (by simp)]; simp; rfl, by rw [hcells.1, hnl], ?_⟩) (fun c hc => .inr ?_)
    · rw [List.getElem?_append_left (by simpa using hc), List.getElem?_set_ne (fun e => hno (by subst e; exact hbv))]
    · refine ⟨by rw [hcells.1]; exact Nat.le_refl _, ?_⟩
      rw [List.take_of_length_le (by rw [hcells.1]; exact Nat.le_refl _)]
      exact hcells
    · cases hc; exact Nat.le_refl _
  · obtain rfl : i = es.length := by omega
    rw [List.take_of_length_le (Nat.le_refl _), List.drop_eq_nil_of_le (Nat.le_refl _)]
    exact insert_end_ B H _ _ v u es e hM hh' (hM.sl .here) hl
end Go.Proofs.YtengdmagaeckoaaGreat.VM

/- Layer 15: the program's Put, Drop, Get. -/
namespace Go.Proofs.YtengdmagaeckoaaGreat.VM
open Go
set_option linter.unusedVariables false
set_option linter.unusedSimpArgs false
attribute [local irreducible] wq wqL wqD wqE wqO Th Bk EndR
set_option maxHeartbeats 8000000

theorem cloneEnt_ (H : Heap) (v : V) (es : List Ent) (hx : Sl 3 entC H v es) (hl : es.length ≤ 64) : ∃ w H', Call Tryz.prog 101 [v] H w H' ∧ Mem H H' [.own 3 entC w es] := by
  refine call_mem fit mixed Tryz.func101 rfl rfl rfl (by kernel_rfl) fun hM => ?_
  rcases hx with ⟨rfl, rfl⟩ | ⟨b, off, cap, t, cs, wr, rfl, h1, h2, h3, h4⟩
  · refine goM ?_
    exact end_1 (by first | exact .inl rfl | exact .inr rfl) (hM.nil 3 entC)
  · have hx : Sl 3 entC H (.slc b off es.length cap t 3) es := .inr ⟨b, off, cap, t, cs, wr, rfl, h1, h2, h3, h4⟩
    clear h1 h2 h3 h4
    refine goM ?_
    refine l_sliceM entC [] [] T57 rfl T76 rfl (cells_ents []) (by decide) fun e1 H3 hM => ?_
    refine goM ?_
    refine l_appM (hx.mono hM.pre) (xs := []) (hb := by simp only [List.length_nil]; omega) fun a H4 hM => ?_
    refine goM ?_
    exact end_1 (by first | exact .inl rfl | exact .inr rfl) hM

theorem bump_at {es : List Ent} {k : Nat} {e : Ent} (d : Int) (h : es[k]? = some e) : bump es k d = es.set k ⟨e.id, e.tx, e.n + d⟩ := by unfold bump; rw [h]
theorem Mem.bump {B H : Heap} {L : List Res} {f : Res → List Res} {v : V} {es : List Ent} {k : Nat} {e : Ent} (hM : Mem B H L) (hh : Has L (.own 3 entC v es) f) (he : es[k]? = some e) (d : Int) {b o : Nat} (hi : idxV T 57 v (k : Int) = some (.ptr b o)) : ∃ H', storeV T 3 H b (o + 2) (.int .i64 (e.n + d)) = some H' ∧ Mem B H' (f (.own 3 entC v (VM.bump es k d))) := by
  obtain ⟨b', hix, hput⟩ := hM.elemAt hh T57 rfl T76 rfl he 2 T3 (by decide)
  rw [hi] at hix
  cases hix
  rw [bump_at d he]
  exact hput (.int .i64 (e.n + d)) ⟨e.id, e.tx, e.n + d⟩ rfl rfl fun cs hl hR => by rw [hR]; rfl

theorem freeFrom_step {es : List Ent} {k : Nat} {e : Ent} (h : es[k]? = some e) : freeFrom (es.drop k) k = if e.id = (k : Int) then freeFrom (es.drop (k + 1)) (k + 1) else k := by
  obtain ⟨hlt, rfl⟩ := List.getElem?_eq_some_iff.1 h
  rw [List.drop_eq_getElem_cons hlt]; rfl
theorem ent_n {es : List Ent} (hs : Store es) {k : Nat} {e : Ent} (h : es[k]? = some e) : 0 ≤ e.n ∧ e.n ≤ 8 := by
  have := hs.ok e (List.mem_of_getElem? h)
  unfold entOk at this
  simp only [Bool.and_eq_true, within_iff] at this
  exact this.2

theorem put15_ (H : Heap) (v : V) (es : List Ent) (s : ByteArray) (hx : Sl 3 entC H v es) (hl : es.length ≤ 2 ^ 47) :
    ∃ w H', Call Tryz.prog 60 [v, .str s] H w H' ∧ ∃ u, w = .tup [u, .int .i64 (putS es s).2.1, .int .i64 (putS es s).2.2] ∧ Mem H H' [.own 3 entC u (putS es s).1] := by
  refine call_mem fit mixed Tryz.func60 rfl rfl rfl (by kernel_rfl) fun hM => ?_
  have c1 := storeMay_ H v es hx hl
  have c2 := text_ H s
  unfold putS
  cases hm : storeMay es with
  | false =>
    rw [hm] at c1
    rw [Bool.false_and, if_pos rfl]
    clear hm c2
    refine goM ?_
    refine l_callG c1 ?_
    refine goM ?_
    exact end_3 (by first | exact .inl rfl | exact .inr rfl) ⟨_, rfl, hM.nil 3 entC⟩
  | true =>
    rw [hm] at c1
    have hs := store_of hm
    cases ht : textOk s with
    | false =>
      rw [ht] at c2
      rw [Bool.and_false, if_pos rfl]
      clear hm ht hs
      refine goM ?_
      refine l_callG c1 ?_
      refine goM ?_
      refine l_callG c2 ?_
      refine goM ?_
      exact end_3 (by first | exact .inl rfl | exact .inr rfl) ⟨_, rfl, hM.nil 3 entC⟩
    | true =>
      rw [ht] at c2
      rw [Bool.and_true, if_neg (by decide)]
      have hn64 := hs.len
      obtain ⟨u, H1, c3, m1⟩ := cloneEnt_ H v es hx hn64
      have c4 := holds_ H1 u es s (m1.sl .here) hl
      have hlen := (m1.sl .here).len T57 rfl
      obtain ⟨n, hn⟩ : ∃ n, es.length = n := ⟨_, rfl⟩
      rw [hn] at hlen hn64
      clear hm ht
      obtain ⟨k, hk⟩ : ∃ k, holdsN es s = k := ⟨_, rfl⟩
      rw [hk]
      cases he : es[k]? with
      | some e =>
        have hkl := (List.getElem?_eq_some_iff.1 he).1
        have hr : holdsR es s = (k : Int) := by unfold holdsR; rw [hk, if_pos hkl]
        rw [hr] at c4
        obtain ⟨hn0, hn8⟩ := ent_n hs he
        obtain ⟨b, o, hie, _, _, _, lo2⟩ := ent_at (m1.sl .here) he
        have dk : decide ((k : Int) ≥ 0) = true := decide_eq_true (by omega)
        have dk2 : decide ((k : Int) < 0) = false := decide_eq_false (by omega)
        have wn : IntKind.i64.wrap (e.n + 1) = e.n + 1 := wrap_i64 (by omega) (by omega)
        obtain ⟨H2, hst, m2⟩ := m1.bump .here he 1 hie
        obtain ⟨_, _, hie', _, lo0, _⟩ := ent_at (m2.sl .here) (k := k) (e := ⟨e.id, e.tx, e.n + 1⟩) (by rw [bump_at 1 he, List.getElem?_set_self hkl])
        rw [hie] at hie'
        cases hie'
        replace hM := hM.call1 m1
        by_cases h8 : e.n = 8
        · have d8 : (e.n == 8) = true := by rw [h8]; rfl
          simp only [h8, if_true]
          clear hst m1 m2 hn0 hn8 he hr hk hs wn h8 hkl
          refine goM ?_
          refine l_callG c1 ?_
          refine goM ?_
          refine l_callG c2 ?_
          refine goM ?_
          refine l_callG c3 ?_
          refine goM ?_
          refine l_callG c4 ?_
          refine goM ?_
          exact end_3 (by first | exact .inl rfl | exact .inr rfl) ⟨_, rfl, (hM.sub (L' := []) (by simp)).nil 3 entC⟩
        · have d8 : (e.n == 8) = false := by simpa using h8
          simp only [h8, if_false]
          clear m1 hn0 hn8 he hr hk hs h8 hkl hM
          refine goM ?_
          refine l_callG c1 ?_
          refine goM ?_
          refine l_callG c2 ?_
          refine goM ?_
          refine l_callG c3 ?_
          refine goM ?_
          refine l_callG c4 ?_
          refine goM ?_
          refine l_stM hst ?_
          refine goM ?_
          exact end_3 (by first | exact .inl rfl | exact .inr rfl) ⟨_, rfl, m2⟩
      | none =>
        have hkl : es.length ≤ k := List.getElem?_eq_none_iff.1 he
        have hr : holdsR es s = -1 := by unfold holdsR; rw [hk, if_neg (by omega)]
        rw [hr] at c4
        replace hM := hM.call1 m1
        have hl64 : ((n : Int) == 64) = decide (n = 64) := by
          by_cases h : n = 64
          · subst h; rfl
          · rw [decide_eq_false h]; simp; omega
        simp only
        rw [hn]
        by_cases h64 : n = 64
        · rw [decide_eq_true h64] at hl64
          rw [if_pos h64]
          clear m1 he hr hk hs hkl h64
          refine goM ?_
          refine l_callG c1 ?_
          refine goM ?_
          refine l_callG c2 ?_
          refine goM ?_
          refine l_callG c3 ?_
          refine goM ?_
          refine l_callG c4 ?_
          refine goM ?_
          exact end_3 (by first | exact .inl rfl | exact .inr rfl) ⟨_, rfl, (hM.sub (L' := []) (by simp)).nil 3 entC⟩
        · rw [decide_eq_false h64] at hl64
          rw [if_neg h64]
          clear m1 he hr hk hs hkl h64
          refine goM ?_
          refine l_callG c1 ?_
          refine goM ?_
          refine l_callG c2 ?_
          refine goM ?_
          refine l_callG c3 ?_
          refine goM ?_
          refine l_callG c4 ?_
          refine goM ?_
          obtain ⟨z, hz⟩ : ∃ z, freeN es = z := ⟨_, rfl⟩
          rw [hz]
          refine wq_loop (fun c ρ h => ∃ k : Nat, k ≤ n ∧ c = n - k ∧ h = H1 ∧ freeFrom (es.drop k) k = z ∧ ρ 1 = .str s ∧ ρ 7 = u ∧ ρ 9 = .int .i64 (k : Int)) ⟨0, Nat.zero_le _, rfl, rfl, hz, rfl, rfl, rfl⟩ ?_
          clear c1 c2 c3 c4
          rintro _ ρ h ⟨k, hk, rfl, rfl, hfr, g1, g7, g9⟩
          have finish : ∀ ρ : Rho, k = z → ρ 1 = .str s → ρ 7 = u → ρ 9 = .int .i64 (k : Int) → Mem H h [.own 3 entC u es] → ∃ d, d = (k : Int) := fun _ _ _ _ _ _ => ⟨_, rfl⟩
          by_cases hkn : k < n
          · obtain ⟨e, he⟩ : ∃ e, es[k]? = some e := ⟨es[k]'(by omega), by simp⟩
            obtain ⟨b, o, hie, _, lo0, _⟩ := ent_at (hM.sl .here) he
            have dkn : decide ((k : Int) < (n : Int)) = true := decide_eq_true (by omega)
            rw [freeFrom_step he] at hfr
            by_cases hek : e.id = (k : Int)
            · have dek : (e.id == (k : Int)) = true := by simpa using hek
              rw [if_pos hek] at hfr
              have hw := wrap_succ (n := k) (by omega)
              clear he hek
              refine goM ?_
              exact ⟨n - (k + 1), by omega, k + 1, hkn, rfl, rfl, hfr, by simp [put_app, put_none, *]⟩
            · have dek : (e.id == (k : Int)) = false := by simpa using hek
              rw [if_neg hek] at hfr
              subst hfr
              clear he hek hz
              refine goM ?_
              refine l_sliceM entC [⟨(k : Int), s, 1⟩] (entV ⟨(k : Int), s, 1⟩) T57 rfl T76 rfl (cells_ents [⟨(k : Int), s, 1⟩]) (by decide) fun e1 H2 hM => ?_
              obtain ⟨w, H3, c5, m5⟩ := insert_ H H2 _ _ u e1 es ⟨(k : Int), s, 1⟩ k hM .here (by omega) (by omega)
              refine goM ?_
              refine l_callG c5 ?_
              refine goM ?_
              exact end_3 (by first | exact .inl rfl | exact .inr rfl) ⟨_, rfl, m5.sub (by (repeat (first | exact List.Sublist.slnil | exact List.Sublist.refl _ | refine List.Sublist.cons_cons _ ?_ | refine List.Sublist.cons _ ?_)))⟩
          · obtain rfl : k = n := by omega
            have dkn : decide ((k : Int) < (k : Int)) = false := decide_eq_false (by omega)
            rw [List.drop_eq_nil_of_le (by omega)] at hfr
            replace hfr : k = z := hfr
            subst hfr
            clear hz hkn
            refine goM ?_
            refine l_sliceM entC [⟨(k : Int), s, 1⟩] (entV ⟨(k : Int), s, 1⟩) T57 rfl T76 rfl (cells_ents [⟨(k : Int), s, 1⟩]) (by decide) fun e1 H2 hM => ?_
            obtain ⟨w, H3, c5, m5⟩ := insert_ H H2 _ _ u e1 es ⟨(k : Int), s, 1⟩ k hM .here (by omega) (by omega)
            refine goM ?_
            refine l_callG c5 ?_
            refine goM ?_
            exact end_3 (by first | exact .inl rfl | exact .inr rfl) ⟨_, rfl, m5.sub (by (repeat (first | exact List.Sublist.slnil | exact List.Sublist.refl _ | refine List.Sublist.cons_cons _ ?_ | refine List.Sublist.cons _ ?_)))⟩
end Go.Proofs.YtengdmagaeckoaaGreat.VM

/- Layer 15: the program's Drop, Get, Sweep. -/
namespace Go.Proofs.YtengdmagaeckoaaGreat.VM
open Go
set_option linter.unusedVariables false
set_option linter.unusedSimpArgs false
attribute [local irreducible] wq wqL wqD wqE wqO Th Bk EndR
set_option maxHeartbeats 8000000

theorem get15_ (H : Heap) (v : V) (es : List Ent) (id : Int) (hx : Sl 3 entC H v es) (hl : es.length ≤ 2 ^ 47) :
    Call Tryz.prog 109 [v, .int .i64 id] H (.tup [.str (getS es id).1, .bool (getS es id).2]) H := by
  refine call_pure fit mixed Tryz.func109 rfl rfl rfl (by kernel_rfl) rfl fun hM => ?_
  have c1 := storeMay_ H v es hx hl
  unfold getS
  cases hm : storeMay es with
  | false =>
    rw [hm] at c1
    rw [if_pos rfl]
    clear hm
    refine goM ?_
    refine l_callG c1 ?_
    refine goM ?_
    exact end_2 (by first | exact .inl rfl | exact .inr rfl) ⟨rfl, List.prefix_refl _⟩
  | true =>
    rw [hm] at c1
    rw [if_neg (by decide)]
    have hs := store_of hm
    have c2 := find_ H v es id hx hs
    cases hi : isN es id with
    | false =>
      rw [hi] at c2
      rw [find_none hs hi]
      clear hm hs hi
      refine goM ?_
      refine l_callG c1 ?_
      refine goM ?_
      refine l_callG c2 ?_
      refine goM ?_
      exact end_2 (by first | exact .inl rfl | exact .inr rfl) ⟨rfl, List.prefix_refl _⟩
    | true =>
      obtain ⟨e, he, hid, hf⟩ := find_some hs hi
      rw [hi] at c2
      rw [hf, he]
      obtain ⟨k, hk⟩ : ∃ k, lowN es id = k := ⟨_, rfl⟩
      rw [hk] at c2 he
      obtain ⟨b, o, hie, _, _, lo1, _⟩ := ent_at hx he
      clear hm hs hi hf hid hk he
      refine goM ?_
      refine l_callG c1 ?_
      refine goM ?_
      refine l_callG c2 ?_
      refine goM ?_
      exact end_2 (by first | exact .inl rfl | exact .inr rfl) ⟨rfl, List.prefix_refl _⟩

end Go.Proofs.YtengdmagaeckoaaGreat.VM

/- Layer 15: the document's StoreMay, PutStore. -/
namespace Go.Proofs.YtengdmagaeckoaaGreat.VM
open Go
set_option linter.unusedVariables false
set_option linter.unusedSimpArgs false
attribute [local irreducible] wq wqL wqD wqE wqO Th Bk EndR
set_option maxHeartbeats 8000000

theorem within_text (s : ByteArray) : within (s.size : Int) 1 256 = textOk s := by
  unfold textOk
  apply Bool.eq_iff_iff.2
  rw [within_iff]
  simp
  omega
theorem entOk_split (e : Ent) : entOk e = (within e.id 0 1024 && textOk e.tx && within e.n 0 8) := rfl
theorem holdsN_other {es : List Ent} {k m : Nat} {e x : Ent} (he : es[k]? = some e) (hm : m < k) (hx : es[m]? = some x) (ht : txEq x.tx e.tx = true) : okAt es k = false := by
  rw [Bool.eq_false_iff]
  intro ho
  unfold okAt at ho
  rw [he] at ho
  simp only [Bool.and_eq_true, decide_eq_true_eq] at ho
  have := holdsN_lt (s := e.tx) (k := m) (by rw [ho.2]; exact hm) hx
  rw [ht] at this; cases this

def prevOk (es : List Ent) (k : Nat) (e : Ent) : Bool := match k with
  | 0 => true
  | j + 1 => match es[j]? with
    | none => true
    | some p => decide (p.id < e.id)
theorem okAt_eq {es : List Ent} {k : Nat} {e : Ent} (h : es[k]? = some e) : okAt es k = (entOk e && prevOk es k e && decide (holdsN es e.tx = k)) := by
  unfold okAt; rw [h]; rfl

theorem refStoreMay_ (H : Heap) (v : V) (es : List Ent) (hx : Sl 3 entC H v es) (hl : es.length ≤ 2 ^ 47) : Call Tryz.prog 71 [v] H (.bool (storeMay es)) H := by
  refine call_pure fit mixed Tryz.func71 rfl rfl rfl (by kernel_rfl) rfl fun hM => ?_
  obtain ⟨n, hn⟩ : ∃ n, es.length = n := ⟨_, rfl⟩
  have hlen := hx.len T57 rfl
  rw [hn] at hlen
  refine goM ?_
  refine wq_loop (fun c ρ h => ∃ k : Nat, k ≤ n ∧ c = n - k ∧ h = H ∧ (∀ j, j < k → okAt es j = true) ∧ ρ 0 = v ∧ ρ 3 = .int .i64 (k : Int)) ⟨0, Nat.zero_le _, rfl, rfl, by intro j hj; omega, rfl, rfl⟩ ?_
  clear hM
  rintro _ ρ h ⟨k, hk, rfl, rfl, hgood, g0, g3⟩
  refine goM ?_
  refine cond_go (fun hb => ?_) (fun hb => ?_)
  · have hk' : k < n := by simpa using hb
    clear hb
    obtain ⟨e, he⟩ : ∃ e, es[k]? = some e := ⟨es[k]'(by omega), by simp⟩
    obtain ⟨b, o, hie, _, l0, l1, l2⟩ := ent_at hx he
    have c1 := upTo12_ h e.id 0 1024
    have c2 := upTo12_ h (e.tx.size : Int) 1 256
    have c3 := upTo12_ h e.n 0 8
    rw [within_text] at c2
    have hsl := str_len0 e.tx
    have hw := wrap_succ (n := k) (by omega)
    have hfail := fun hq => may_fail (es := es) (k := k) (by omega) hq
    have hnext : okAt es k = true → ∀ j, j < k + 1 → okAt es j = true := fun ho j hj => by
      rcases Nat.lt_or_eq_of_le (Nat.le_of_lt_succ hj) with h1 | h1
      · exact hgood j h1
      · subst h1; exact ho
    have hoth := fun (m : Nat) (x : Ent) (hm : m < k) (hx : es[m]? = some x) (ht : txEq x.tx e.tx = true) => holdsN_other he hm hx ht
    have hown := fun (hall : ∀ (m : Nat) (x : Ent), m < k → es[m]? = some x → txEq x.tx e.tx = false) => holdsN_eq he rfl hall
    have hoe := okAt_eq he
    rw [entOk_split] at hoe
    obtain ⟨q1, e1⟩ : ∃ q, within e.id 0 1024 = q := ⟨_, rfl⟩
    obtain ⟨q2, e2⟩ : ∃ q, textOk e.tx = q := ⟨_, rfl⟩
    obtain ⟨q3, e3⟩ : ∃ q, within e.n 0 8 = q := ⟨_, rfl⟩
    rw [e1] at c1 hoe
    rw [e2] at c2 hoe
    rw [e3] at c3 hoe
    clear e1 e2 e3 hgood
    cases q1 with
    | false =>
      rw [hfail (by rw [hoe]; simp)]
      clear hfail hnext hoth hown hoe he hlen
      refine goM ?_
      refine d_call0G c1 ?_
      refine goM ?_
      exact end_1 (by first | exact .inl rfl | exact .inr rfl) ⟨rfl, List.prefix_refl _⟩
    | true =>
    cases q2 with
    | false =>
      rw [hfail (by rw [hoe]; simp)]
      clear hfail hnext hoth hown hoe he hlen
      refine goM ?_
      refine d_call0G c1 ?_
      refine goM ?_
      refine d_call0G c2 ?_
      refine goM ?_
      exact end_1 (by first | exact .inl rfl | exact .inr rfl) ⟨rfl, List.prefix_refl _⟩
    | true =>
    cases q3 with
    | false =>
      rw [hfail (by rw [hoe]; simp)]
      clear hfail hnext hoth hown hoe he hlen
      refine goM ?_
      refine d_call0G c1 ?_
      refine goM ?_
      refine d_call0G c2 ?_
      refine goM ?_
      refine d_call0G c3 ?_
      refine goM ?_
      exact end_1 (by first | exact .inl rfl | exact .inr rfl) ⟨rfl, List.prefix_refl _⟩
    | true =>
    obtain ⟨q4, e4⟩ : ∃ q, prevOk es k e = q := ⟨_, rfl⟩
    rw [e4] at hoe
    cases q4 with
    | false =>
      rw [hfail (by rw [hoe]; simp)]
      cases k with
      | zero => cases e4
      | succ k =>
        obtain ⟨p, hp⟩ : ∃ p, es[k]? = some p := ⟨es[k]'(by omega), by simp⟩
        obtain ⟨b2, o2, hip, _, m0, _⟩ := ent_at hx hp
        simp only [prevOk, hp] at e4
        have z0 : decide (((k + 1 : Nat) : Int) > 0) = true := decide_eq_true (by omega)
        have wk : IntKind.i64.wrap (((k + 1 : Nat) : Int) - 1) = (k : Int) := by rw [wrap_i64 (by omega) (by omega)]; omega
        have hcmp : decide (p.id ≥ e.id) = true := by
          have := of_decide_eq_false e4
          exact decide_eq_true (by omega)
        clear hfail hnext hoth hown hoe he hlen hp e4
        refine goM ?_
        refine d_call0G c1 ?_
        refine goM ?_
        refine d_call0G c2 ?_
        refine goM ?_
        refine d_call0G c3 ?_
        refine goM ?_
        exact end_1 (by first | exact .inl rfl | exact .inr rfl) ⟨rfl, List.prefix_refl _⟩
    | true =>
      have hgt : ∃ z : Bool, decide ((k : Int) > 0) = z ∧ (z = true → ∃ (p : Ent) (b2 o2 : Nat) (wk : Int), IntKind.i64.wrap ((k : Int) - 1) = wk ∧ idxV T 57 v wk = some (.ptr b2 o2) ∧ loadV T 3 h b2 o2 = some (.int .i64 p.id) ∧ decide (p.id ≥ e.id) = false) := by
        cases k with
        | zero => exact ⟨false, by decide, fun h => by cases h⟩
        | succ k =>
          obtain ⟨p, hp⟩ : ∃ p, es[k]? = some p := ⟨es[k]'(by omega), by simp⟩
          obtain ⟨b2, o2, hip, _, m0, _⟩ := ent_at hx hp
          simp only [prevOk, hp] at e4
          refine ⟨true, decide_eq_true (by omega), fun _ => ⟨p, b2, o2, k, by rw [wrap_i64 (by omega) (by omega)]; omega, hip, m0, ?_⟩⟩
          have := of_decide_eq_true e4
          exact decide_eq_false (by omega)
      obtain ⟨z, hz, hzt⟩ := hgt
      cases z with
      | false =>
        clear hzt e4
        refine goM ?_
        refine d_call0G c1 ?_
        refine goM ?_
        refine d_call0G c2 ?_
        refine goM ?_
        refine d_call0G c3 ?_
        refine goM ?_
        clear hz c1 c2 c3 l0 l2 hsl
        refine wq_loop (fun c ρ h' => ∃ m : Nat, m ≤ k ∧ c = k - m ∧ h' = h ∧ (∀ (j : Nat) (x : Ent), j < m → es[j]? = some x → txEq x.tx e.tx = false) ∧ ρ 0 = v ∧ ρ 3 = .int .i64 (k : Int) ∧ ρ 4 = .int .i64 (m : Int)) ⟨0, Nat.zero_le _, rfl, rfl, by intro j x hj; omega, by simp [put_app, put_none, *], by simp [put_app, put_none, *], rfl⟩ ?_
        clear g0 g3
        rintro _ ρ h' ⟨m, hm, rfl, rfl, hall, g0, g3, g4⟩
        refine goM ?_
        refine cond_go (fun hb => ?_) (fun hb => ?_)
        · have hm' : m < k := by simpa using hb
          clear hb
          obtain ⟨y, hy⟩ : ∃ e, es[m]? = some e := ⟨es[m]'(by omega), by simp⟩
          obtain ⟨b3, o3, hi3, _, _, k1, _⟩ := ent_at hx hy
          have hwm := wrap_succ (n := m) (by omega)
          cases hq : txEq y.tx e.tx with
          | true =>
            rw [hfail (hoth m y hm' hy hq)]
            replace hq := (tx_def y.tx e.tx).trans hq
            clear hfail hnext hoth hown hoe he hlen hall hy
            refine goM ?_
            exact end_1 (by first | exact .inl rfl | exact .inr rfl) ⟨rfl, List.prefix_refl _⟩
          | false =>
            have hall2 : ∀ (j : Nat) (x : Ent), j < m + 1 → es[j]? = some x → txEq x.tx e.tx = false := fun j x hj hx => by
              rcases Nat.lt_or_eq_of_le (Nat.le_of_lt_succ hj) with h1 | h1
              · exact hall j x h1 hx
              · subst h1
                rw [hy] at hx; cases hx; exact hq
            replace hq := (tx_def y.tx e.tx).trans hq
            clear hfail hnext hoth hown hoe he hlen hall hy
            refine goM ?_
            exact ⟨k - (m + 1), by omega, m + 1, hm', rfl, rfl, hall2, by simp [put_app, put_none, *]⟩
        · have hm' : m = k := by have : ¬ m < k := by simpa using hb
                                 omega
          subst hm'
          have hg := hnext (by rw [hoe, hown hall]; simp)
          clear hb hfail hnext hoth hown hoe he hlen hall
          refine goM ?_
          exact ⟨n - (m + 1), by omega, m + 1, hk', rfl, rfl, hg, by simp [put_app, put_none, *]⟩
      | true =>
        obtain ⟨p, b2, o2, wk, hwk, hip, m0, hcmp⟩ := hzt rfl
        clear hzt e4
        refine goM ?_
        refine d_call0G c1 ?_
        refine goM ?_
        refine d_call0G c2 ?_
        refine goM ?_
        refine d_call0G c3 ?_
        refine goM ?_
        clear hz c1 c2 c3 l0 l2 hsl hip m0 hcmp hwk
        refine wq_loop (fun c ρ h' => ∃ m : Nat, m ≤ k ∧ c = k - m ∧ h' = h ∧ (∀ (j : Nat) (x : Ent), j < m → es[j]? = some x → txEq x.tx e.tx = false) ∧ ρ 0 = v ∧ ρ 3 = .int .i64 (k : Int) ∧ ρ 4 = .int .i64 (m : Int)) ⟨0, Nat.zero_le _, rfl, rfl, by intro j x hj; omega, by simp [put_app, put_none, *], by simp [put_app, put_none, *], rfl⟩ ?_
        clear g0 g3
        rintro _ ρ h' ⟨m, hm, rfl, rfl, hall, g0, g3, g4⟩
        refine goM ?_
        refine cond_go (fun hb => ?_) (fun hb => ?_)
        · have hm' : m < k := by simpa using hb
          clear hb
          obtain ⟨y, hy⟩ : ∃ e, es[m]? = some e := ⟨es[m]'(by omega), by simp⟩
          obtain ⟨b3, o3, hi3, _, _, k1, _⟩ := ent_at hx hy
          have hwm := wrap_succ (n := m) (by omega)
          cases hq : txEq y.tx e.tx with
          | true =>
            rw [hfail (hoth m y hm' hy hq)]
            replace hq := (tx_def y.tx e.tx).trans hq
            clear hfail hnext hoth hown hoe he hlen hall hy
            refine goM ?_
            exact end_1 (by first | exact .inl rfl | exact .inr rfl) ⟨rfl, List.prefix_refl _⟩
          | false =>
            have hall2 : ∀ (j : Nat) (x : Ent), j < m + 1 → es[j]? = some x → txEq x.tx e.tx = false := fun j x hj hx => by
              rcases Nat.lt_or_eq_of_le (Nat.le_of_lt_succ hj) with h1 | h1
              · exact hall j x h1 hx
              · subst h1
                rw [hy] at hx; cases hx; exact hq
            replace hq := (tx_def y.tx e.tx).trans hq
            clear hfail hnext hoth hown hoe he hlen hall hy
            refine goM ?_
            exact ⟨k - (m + 1), by omega, m + 1, hm', rfl, rfl, hall2, by simp [put_app, put_none, *]⟩
        · have hm' : m = k := by have : ¬ m < k := by simpa using hb
                                 omega
          subst hm'
          have hg := hnext (by rw [hoe, hown hall]; simp)
          clear hb hfail hnext hoth hown hoe he hlen hall
          refine goM ?_
          exact ⟨n - (m + 1), by omega, m + 1, hk', rfl, rfl, hg, by simp [put_app, put_none, *]⟩
  · have hk' : k = n := by have : ¬ k < n := by simpa using hb
                           omega
    subst hk'
    have hres : storeMay es = decide ((k : Int) ≤ 64) := by
      unfold storeMay
      have : (List.range es.length).all (okAt es) = true := by
        simp only [List.all_eq_true, List.mem_range]
        exact fun i hi => hgood i (by omega)
      rw [this, hn, Bool.and_true]
      apply Bool.eq_iff_iff.2
      simp only [decide_eq_true_eq]; omega
    rw [hres]
    clear hb hres hgood
    refine goM ?_
    exact end_1 (by first | exact .inl rfl | exact .inr rfl) ⟨rfl, List.prefix_refl _⟩
end Go.Proofs.YtengdmagaeckoaaGreat.VM

/- Layer 15: the document's PutStore, DropStore, GetStore, SweepStore. -/
namespace Go.Proofs.YtengdmagaeckoaaGreat.VM
open Go
set_option linter.unusedVariables false
set_option linter.unusedSimpArgs false
attribute [local irreducible] wq wqL wqD wqE wqO Th Bk EndR
set_option maxHeartbeats 8000000

theorem refPut15_ (H : Heap) (v : V) (es : List Ent) (s : ByteArray) (hx : Sl 3 entC H v es) (hl : es.length ≤ 2 ^ 47) :
    ∃ w H', Call Tryz.prog 62 [v, .str s] H w H' ∧ ∃ u, w = .tup [u, .int .i64 (putS es s).2.1, .int .i64 (putS es s).2.2] ∧ Mem H H' [.own 3 entC u (putS es s).1] := by
  refine call_mem fit mixed Tryz.func62 rfl rfl rfl (by kernel_rfl) fun hM => ?_
  have c1 := refStoreMay_ H v es hx hl
  have c2 := upTo12_ H (s.size : Int) 1 256
  rw [within_text] at c2
  have hsl := str_len0 s
  unfold putS
  cases hm : storeMay es with
  | false =>
    rw [hm] at c1
    rw [Bool.false_and, if_pos rfl]
    clear hm c2
    refine goM ?_
    refine l_callG c1 ?_
    refine goM ?_
    exact end_3 (by first | exact .inl rfl | exact .inr rfl) ⟨_, rfl, hM.nil 3 entC⟩
  | true =>
    rw [hm] at c1
    have hs := store_of hm
    cases ht : textOk s with
    | false =>
      rw [ht] at c2
      rw [Bool.and_false, if_pos rfl]
      clear hm ht hs
      refine goM ?_
      refine l_callG c1 ?_
      refine goM ?_
      refine l_callG c2 ?_
      refine goM ?_
      exact end_3 (by first | exact .inl rfl | exact .inr rfl) ⟨_, rfl, hM.nil 3 entC⟩
    | true =>
      rw [ht] at c2
      rw [Bool.and_true, if_neg (by decide)]
      have hn64 := hs.len
      have hlen := hx.len T57 rfl
      obtain ⟨n, hn⟩ : ∃ n, es.length = n := ⟨_, rfl⟩
      rw [hn] at hlen hn64
      clear hm ht
      refine goM ?_
      refine l_callG c1 ?_
      refine goM ?_
      refine l_callG c2 ?_
      refine goM ?_
      refine l_sliceM entC [] [] T57 rfl T76 rfl (cells_ents []) (by decide) fun e1 H3 hM => ?_
      refine goM ?_
      refine l_appM (hx.mono hM.pre) (xs := []) (hb := by simp only [List.length_nil]; omega) fun u H1 hM => ?_
      have hlenu := (hM.sl .here).len T57 rfl
      rw [List.nil_append, hn] at hlenu
      rw [List.nil_append] at hM
      clear c1 c2
      refine goM ?_
      refine wq_loop (fun c ρ h => ∃ k : Nat, k ≤ n ∧ c = n - k ∧ h = H1 ∧ (∀ (j : Nat) (x : Ent), j < k → es[j]? = some x → txEq x.tx s = false) ∧ ρ 0 = v ∧ ρ 1 = .str s ∧ ρ 7 = u ∧ ρ 8 = .int .i64 (k : Int)) ⟨0, Nat.zero_le _, rfl, rfl, by intro j x hj; omega, rfl, rfl, rfl, rfl⟩ ?_
      rintro _ ρ h ⟨k, hk, rfl, rfl, hall, g0, g1, g7, g8⟩
      refine goM ?_
      refine cond_go (fun hb => ?_) (fun hb => ?_)
      · have hk' : k < n := by simpa using hb
        clear hb
        obtain ⟨e, he⟩ : ∃ e, es[k]? = some e := ⟨es[k]'(by omega), by simp⟩
        obtain ⟨b, o, hie, _, _, lo1, lo2⟩ := ent_at (hM.sl .here) he
        have hw := wrap_succ (n := k) (by omega)
        have hkl := (List.getElem?_eq_some_iff.1 he).1
        cases hq : txEq e.tx s with
        | false =>
          have hall2 : ∀ (j : Nat) (x : Ent), j < k + 1 → es[j]? = some x → txEq x.tx s = false := fun j x hj hx => by
            rcases Nat.lt_or_eq_of_le (Nat.le_of_lt_succ hj) with h1 | h1
            · exact hall j x h1 hx
            · subst h1
              rw [he] at hx; cases hx; exact hq
          replace hq := (tx_def e.tx s).trans hq
          clear he hall hs
          refine goM ?_
          exact ⟨n - (k + 1), by omega, k + 1, hk', rfl, rfl, hall2, by simp [put_app, put_none, *]⟩
        | true =>
          have hN : holdsN es s = k := holdsN_eq he (txEq_iff.1 hq) hall
          rw [hN, he]
          simp only
          replace hq := (tx_def e.tx s).trans hq
          obtain ⟨hn0, hn8⟩ := ent_n hs he
          have wn : IntKind.i64.wrap (e.n + 1) = e.n + 1 := wrap_i64 (by omega) (by omega)
          obtain ⟨H2, hst, m2⟩ := hM.bump .here he 1 hie
          obtain ⟨_, _, hie', _, lo0, _⟩ := ent_at (m2.sl .here) (k := k) (e := ⟨e.id, e.tx, e.n + 1⟩) (by rw [bump_at 1 he, List.getElem?_set_self hkl])
          rw [hie] at hie'
          cases hie'
          by_cases h8 : e.n = 8
          · have d8 : (e.n == 8) = true := by rw [h8]; rfl
            simp only [h8, if_true]
            clear hst m2 hn0 hn8 he hs wn h8 hkl hall hN
            refine goM ?_
            exact end_3 (by first | exact .inl rfl | exact .inr rfl) ⟨_, rfl, (hM.sub (L' := []) (by simp)).nil 3 entC⟩
          · have d8 : (e.n == 8) = false := by simpa using h8
            simp only [h8, if_false]
            clear hn0 hn8 he hs h8 hkl hM hall hN
            refine goM ?_
            refine l_stM hst ?_
            refine goM ?_
            exact end_3 (by first | exact .inl rfl | exact .inr rfl) ⟨_, rfl, m2.sub (by (repeat (first | exact List.Sublist.slnil | exact List.Sublist.refl _ | refine List.Sublist.cons_cons _ ?_ | refine List.Sublist.cons _ ?_)))⟩
      · have hk' : k = n := by have : ¬ k < n := by simpa using hb
                               omega
        subst hk'
        have hN : holdsN es s = es.length := holdsN_none fun j x hx => hall j x (by have := (List.getElem?_eq_some_iff.1 hx).1; omega) hx
        rw [hN, List.getElem?_eq_none (Nat.le_refl _)]
        simp only
        rw [hn]
        clear hb hall hN hs
        have hl64 : ((k : Int) == 64) = decide (k = 64) := by
          by_cases h : k = 64
          · subst h; rfl
          · rw [decide_eq_false h]; simp; omega
        by_cases h64 : k = 64
        · rw [decide_eq_true h64] at hl64
          rw [if_pos h64]
          clear h64
          refine goM ?_
          exact end_3 (by first | exact .inl rfl | exact .inr rfl) ⟨_, rfl, (hM.sub (L' := []) (by simp)).nil 3 entC⟩
        · rw [decide_eq_false h64] at hl64
          rw [if_neg h64]
          clear h64
          refine goM ?_
          obtain ⟨z, hz⟩ : ∃ z, freeN es = z := ⟨_, rfl⟩
          rw [hz]
          clear g7 g8 hl64
          refine wq_loop (fun c ρ h' => ∃ q : Nat, q ≤ k ∧ c = k - q ∧ h' = h ∧ freeFrom (es.drop q) q = z ∧ ρ 0 = v ∧ ρ 1 = .str s ∧ ρ 9 = .int .i64 (q : Int)) ⟨0, Nat.zero_le _, rfl, rfl, hz, by simp [put_app, put_none, *], by simp [put_app, put_none, *], rfl⟩ ?_
          clear g0 g1
          rintro _ ρ h' ⟨q, hq, rfl, rfl, hfr, g0, g1, g9⟩
          have hxh := hx.mono hM.pre
          by_cases hqk : q < k ∧ ∃ e, es[q]? = some e ∧ e.id = (q : Int)
          · obtain ⟨hq', e, he, hek⟩ := hqk
            obtain ⟨b, o, hie, _, lo0, _⟩ := ent_at hxh he
            have dkn : decide ((q : Int) < (k : Int)) = true := decide_eq_true (by omega)
            have dek : (e.id == (q : Int)) = true := by simpa using hek
            rw [freeFrom_step he, if_pos hek] at hfr
            have hw := wrap_succ (n := q) (by omega)
            clear he hek
            refine goM ?_
            exact ⟨k - (q + 1), by omega, q + 1, hq', rfl, rfl, hfr, by simp [put_app, put_none, *]⟩
          · have hqz : q = z := by
              by_cases hq' : q < k
              · obtain ⟨e, he⟩ : ∃ e, es[q]? = some e := ⟨es[q]'(by omega), by simp⟩
                rw [freeFrom_step he, if_neg (fun h => hqk ⟨hq', e, he, h⟩)] at hfr
                exact hfr
              · obtain rfl : q = k := by omega
                rw [List.drop_eq_nil_of_le (by omega)] at hfr
                exact hfr
            have hstop : decide ((q : Int) < (k : Int)) = false ∨ ∃ (e : Ent) (b o : Nat), decide ((q : Int) < (k : Int)) = true ∧ idxV T 57 v (q : Int) = some (.ptr b o) ∧ loadV T 3 h' b o = some (.int .i64 e.id) ∧ (e.id == (q : Int)) = false := by
              by_cases hq' : q < k
              · obtain ⟨e, he⟩ : ∃ e, es[q]? = some e := ⟨es[q]'(by omega), by simp⟩
                obtain ⟨b, o, hie, _, lo0, _⟩ := ent_at hxh he
                refine .inr ⟨e, b, o, decide_eq_true (by omega), hie, lo0, ?_⟩
                have : ¬ e.id = (q : Int) := fun h => hqk ⟨hq', e, he, h⟩
                simpa using this
              · exact .inl (decide_eq_false (by omega))
            have htake := hx.take (k := q) (by omega)
            have hrest := hx.rest (l := q) (by omega)
            obtain ⟨ut, hut, hst⟩ := htake
            obtain ⟨ur, hur, hsr⟩ := hrest
            subst hqz
            have hb1 : (es.take q).length ≤ 64 := by rw [List.length_take]; omega
            have hb2 : (es.drop q).length ≤ 64 := by rw [List.length_drop]; omega
            clear hz hqk hfr
            have hlt : (es.take q).length + (es.drop q).length = es.length := by rw [List.length_take, List.length_drop]; omega
            rcases hstop with hd | ⟨e, b, o, hd, hie, lo0, dek⟩
            all_goals
              refine goM ?_
              refine l_sliceM entC [] [] T57 rfl T76 rfl (cells_ents []) (by decide) fun e1 H3 hM => ?_
              refine goM ?_
              refine l_appM (hst.mono hM.pre) (xs := []) (hb := by simp only [List.length_nil]; omega) fun u1 H4 hM => ?_
              rw [List.nil_append] at hM
              refine goM ?_
              refine l_sliceM entC [⟨(q : Int), s, 1⟩] (entV ⟨(q : Int), s, 1⟩) T57 rfl T76 rfl (cells_ents [⟨(q : Int), s, 1⟩]) (by decide) fun e2 H5 hM => ?_
              refine goM ?_
              refine l_appM (hM.sl .here) (xs := es.take q) (hh := .there .here) (hb := by simp only [List.length_cons, List.length_nil]; omega) fun u2 H6 hM => ?_
              refine goM ?_
              refine l_appM (hsr.mono hM.pre) (xs := es.take q ++ [⟨(q : Int), s, 1⟩]) (hh := .there .here) (hb := by simp only [List.length_append, List.length_cons, List.length_nil]; omega) fun u3 H7 hM => ?_
              rw [List.append_assoc] at hM
              refine goM ?_
              exact end_3 (by first | exact .inl rfl | exact .inr rfl) ⟨_, rfl, hM.subG⟩

theorem refGet15_ (H : Heap) (v : V) (es : List Ent) (id : Int) (hx : Sl 3 entC H v es) (hl : es.length ≤ 2 ^ 47) :
    Call Tryz.prog 37 [v, .int .i64 id] H (.tup [.str (getS es id).1, .bool (getS es id).2]) H := by
  refine call_pure fit mixed Tryz.func37 rfl rfl rfl (by kernel_rfl) rfl fun hM => ?_
  have c1 := refStoreMay_ H v es hx hl
  obtain ⟨n, hn⟩ : ∃ n, es.length = n := ⟨_, rfl⟩
  have hlen := hx.len T57 rfl
  rw [hn] at hlen
  refine goM ?_
  refine wq_loop (fun c ρ h => ∃ k : Nat, k ≤ n ∧ c = n - k ∧ h = H ∧ (∀ (j : Nat) (x : Ent), j < k → es[j]? = some x → x.id ≠ id) ∧ ρ 0 = v ∧ ρ 1 = .int .i64 id ∧ ρ 6 = .int .i64 (k : Int)) ⟨0, Nat.zero_le _, rfl, rfl, by intro j x hj; omega, rfl, rfl, rfl⟩ ?_
  clear hM
  rintro _ ρ h ⟨k, hk, rfl, rfl, hall, g0, g1, g6⟩
  by_cases hkn : k < n
  · have dk : decide ((k : Int) < (n : Int)) = true := decide_eq_true (by omega)
    cases hm : storeMay es with
    | false =>
      rw [hm] at c1
      unfold getS
      rw [hm, if_pos rfl]
      clear hm hall
      refine goM ?_
      refine l_callG c1 ?_
      refine goM ?_
      exact end_2 (by first | exact .inl rfl | exact .inr rfl) ⟨rfl, List.prefix_refl _⟩
    | true =>
      rw [hm] at c1
      obtain ⟨e, he⟩ : ∃ e, es[k]? = some e := ⟨es[k]'(by omega), by simp⟩
      obtain ⟨b, o, hie, _, lo0, lo1, _⟩ := ent_at hx he
      have hw := wrap_succ (n := k) (by omega)
      by_cases hid : e.id = id
      · have d1 : (e.id == id) = true := by simpa using hid
        have hF : findN es id = k := by
          unfold findN
          have hlt := (List.getElem?_eq_some_iff.1 he).1
          rw [List.findIdx_eq hlt]
          have hel : es[k] = e := by rw [List.getElem?_eq_getElem hlt] at he; exact Option.some.inj he
          refine ⟨by rw [hel]; exact decide_eq_true hid, fun j hj => ?_⟩
          have := hall j (es[j]'(by omega)) hj (by simp)
          simpa using this
        unfold getS
        rw [hm, if_neg (by decide), hF, he]
        clear hm hall hF he hid
        refine goM ?_
        refine l_callG c1 ?_
        refine goM ?_
        exact end_2 (by first | exact .inl rfl | exact .inr rfl) ⟨rfl, List.prefix_refl _⟩
      · have d1 : (e.id == id) = false := by simpa using hid
        have hall2 : ∀ (j : Nat) (x : Ent), j < k + 1 → es[j]? = some x → x.id ≠ id := fun j x hj hx => by
          rcases Nat.lt_or_eq_of_le (Nat.le_of_lt_succ hj) with h1 | h1
          · exact hall j x h1 hx
          · subst h1
            rw [he] at hx; cases hx; exact hid
        clear hm hall he hid
        refine goM ?_
        refine l_callG c1 ?_
        refine goM ?_
        exact ⟨n - (k + 1), by omega, k + 1, hkn, rfl, rfl, hall2, by simp [put_app, put_none, *]⟩
  · have dk : decide ((k : Int) < (n : Int)) = false := decide_eq_false (by omega)
    have hres : getS es id = (⟨#[]⟩, false) := by
      unfold getS
      split
      · rfl
      · have : es[findN es id]? = none := by
          rw [List.getElem?_eq_none_iff]
          apply Nat.le_of_not_lt
          intro hlt
          have h2 := List.findIdx_getElem (xs := es) (p := fun e : Ent => decide (e.id = id)) (w := hlt)
          exact hall (findN es id) (es[findN es id]'hlt) (by omega) (by simp) (of_decide_eq_true h2)
        rw [this]
    rw [hres]
    clear hall hres hkn
    refine goM ?_
    exact end_2 (by first | exact .inl rfl | exact .inr rfl) ⟨rfl, List.prefix_refl _⟩

end Go.Proofs.YtengdmagaeckoaaGreat.VM

/- Chapter 21: what is handed in: checkpoints, configs; the statement Trains. -/
namespace Go.Proofs.YtengdmagaeckoaaGreat.VM
open Go
set_option linter.unusedVariables false
set_option linter.unusedSimpArgs false
attribute [local irreducible] wq wqL wqD wqE wqO Th Bk EndR
set_option maxHeartbeats 8000000

theorem Sl.map {α β : Type} {sz : Nat} {R : List V → α → Prop} {R' : List V → β → Prop} {H : Heap} {v : V} {xs : List α} (f : α → β) (h : Sl sz R H v xs) (hf : ∀ cs x, R cs x → R' cs (f x)) : Sl sz R' H v (xs.map f) := by
  rcases h with ⟨rfl, rfl⟩ | ⟨b, off, cap, t, cs, wr, rfl, h1, h2, h3, h4⟩
  · exact .inl ⟨rfl, rfl⟩
  · refine .inr ⟨b, off, cap, t, cs, wr, by rw [List.length_map], by rw [List.length_map]; exact h1, h2, by rw [List.length_map]; exact h3, fun k y hy => ?_⟩
    rw [List.getElem?_map] at hy
    cases hx : xs[k]? with
    | none => rw [hx] at hy; cases hy
    | some x => rw [hx] at hy; cases hy; exact hf _ _ (h4 k x hx)
theorem Sl.all {α : Type} {sz : Nat} {R : List V → α → Prop} {Q : α → Prop} {H : Heap} {v : V} {xs : List α} (h : Sl sz R H v xs) (hf : ∀ cs x, R cs x → Q x) : ∀ x ∈ xs, Q x := fun x hx => by
  obtain ⟨k, hk⟩ := List.mem_iff_getElem?.1 hx
  rcases h with ⟨rfl, rfl⟩ | ⟨b, off, cap, t, cs, wr, rfl, h1, h2, h3, h4⟩
  · cases hx
  · exact hf _ _ (h4 k x hk)

theorem rd_hyper {K : Heap} {D : Type} {vs : List V} {d : DataW D} (h : Rd T K 32 vs d) : ∃ a b, vs = [.int .i64 a, .int .i64 b] := by
  obtain ⟨hl, hf⟩ := h.field T32 rfl
  replace hl : vs.length = 2 := hl
  obtain ⟨x0, h0⟩ := hf 0 _ _ rfl T3
  obtain ⟨x1, h1⟩ := hf 1 _ _ rfl T3
  obtain ⟨n0, e0, _⟩ := h0.isInt T3 rfl
  obtain ⟨n1, e1, _⟩ := h1.isInt T3 rfl
  match vs, hl, e0, e1 with
  | [a, b], _, e0, e1 =>
    simp at e0 e1
    subst e0; subst e1
    exact ⟨n0, n1, rfl⟩
theorem rd_shapecells {K : Heap} {D : Type} {vs : List V} {d : DataW D} (h : Rd T K 23 vs d) : ∃ a b, vs = [.int .i64 a, .int .i64 b] := by
  obtain ⟨hl, hf⟩ := h.field T23 rfl
  replace hl : vs.length = 2 := hl
  obtain ⟨x0, h0⟩ := hf 0 _ _ rfl T3
  obtain ⟨x1, h1⟩ := hf 1 _ _ rfl T3
  obtain ⟨n0, e0, _⟩ := h0.isInt T3 rfl
  obtain ⟨n1, e1, _⟩ := h1.isInt T3 rfl
  match vs, hl, e0, e1 with
  | [a, b], _, e0, e1 =>
    simp at e0 e1
    subst e0; subst e1
    exact ⟨n0, n1, rfl⟩
theorem rd_checkcells {K : Heap} {D : Type} {vs : List V} {d : DataW D} (hr : Rd T K 34 vs d) : ∃ w u k, vs = kC w u k ∧ KAt K w u k ∧ k.Fit := by
  obtain ⟨hl, hf⟩ := hr.field T34 rfl
  replace hl : vs.length = 5 := hl
  obtain ⟨x0, h0⟩ := hf 0 _ _ rfl T30
  obtain ⟨x1, h1⟩ := hf 1 _ _ rfl T30
  obtain ⟨x2, h2⟩ := hf 2 _ _ rfl T32
  obtain ⟨x3, h3⟩ := hf 3 _ _ rfl T3
  obtain ⟨n3, e3, _⟩ := h3.isInt T3 rfl
  obtain ⟨p, q, e2⟩ := rd_hyper h2
  match vs, hl, h0, h1, e2, e3 with
  | [a, b, c, e, f], _, h0, h1, e2, e3 =>
    simp at e2 e3
    obtain ⟨rfl, rfl⟩ := e2
    subst e3
    obtain ⟨ws, s1, l1⟩ := rd_ints ⟨_, T30, .inr ⟨rfl, h0⟩⟩
    obtain ⟨us, s2, l2⟩ := rd_ints ⟨_, T30, .inr ⟨rfl, h1⟩⟩
    exact ⟨a, b, ⟨ws, us, p, q, n3⟩, rfl, ⟨s1, s2⟩, ⟨Nat.le_trans l1 (by decide), Nat.le_trans l2 (by decide)⟩⟩
def rdRowC (K : Heap) (cs : List V) (p : (V × Int) × List Int) : Prop := cs = [p.1.1, .int .i64 p.1.2] ∧ Sl 1 intC K p.1.1 p.2 ∧ p.2.length * 8 ≤ 140737488351232
theorem rd_rows {K : Heap} {D : Type} {v : V} {d : DataW D} (h : RdV T K 24 v d) : ∃ rs, Rows K v rs ∧ rs.length * 32 ≤ 140737488351232 ∧ ∀ r ∈ rs, r.1.length * 8 ≤ 140737488351232 := by
  obtain ⟨xs, h1, h2⟩ := (h.plain T24 rfl).isSlice (R := rdRowC K) T24 rfl T113 fun cs x hx => by
    obtain ⟨x, xs, y, e, e1, e2⟩ := rd_rowcells hx
    exact ⟨((x, y), xs), e, e1, Nat.le_trans e2 (by decide)⟩
  have h3 := h1.all (Q := fun p => Sl 1 intC K p.1.1 p.2 ∧ p.2.length * 8 ≤ 140737488351232) fun cs x hx => hx.2
  refine ⟨xs.map fun p => (p.2, p.1.2), ⟨xs.map (·.1), h1.map (R' := rowC) (fun p => p.1) fun cs x hx => (show rowC cs x.1 from hx.1), by simp, fun k p r hp hr => ?_⟩, by rw [List.length_map]; exact Nat.le_trans h2 (by decide), fun r hr => ?_⟩
  · rw [List.getElem?_map] at hp hr
    cases hx : xs[k]? with
    | none => rw [hx] at hp; cases hp
    | some x =>
      rw [hx] at hp hr
      cases hp; cases hr
      exact ⟨(h3 x (List.mem_iff_getElem?.2 ⟨k, hx⟩)).1, rfl⟩
  · obtain ⟨x, hx, rfl⟩ := List.mem_map.1 hr
    exact (h3 x hx).2
theorem rd_config {K : Heap} {D : Type} {v : V} {d : DataW D} (h : RdV T K 26 v d) : ∃ c rv, v = .agg (cfgC c rv) ∧ Rows K rv c.rows ∧ c.Fit := by
  obtain ⟨vs, rfl, hr⟩ := h.agg T26 rfl
  obtain ⟨hl, hf⟩ := hr.field T26 rfl
  replace hl : vs.length = 9 := hl
  obtain ⟨x0, h0⟩ := hf 0 _ _ rfl T3
  obtain ⟨x1, h1⟩ := hf 1 _ _ rfl T23
  obtain ⟨x2, h2⟩ := hf 2 _ _ rfl T24
  obtain ⟨x3, h3⟩ := hf 3 _ _ rfl T3
  obtain ⟨x4, h4⟩ := hf 4 _ _ rfl T3
  obtain ⟨x5, h5⟩ := hf 5 _ _ rfl T3
  obtain ⟨x6, h6⟩ := hf 6 _ _ rfl T3
  obtain ⟨x7, h7⟩ := hf 7 _ _ rfl T4
  obtain ⟨n0, e0, _⟩ := h0.isInt T3 rfl
  obtain ⟨n1, n2, e1⟩ := rd_shapecells h1
  obtain ⟨n3, e3, _⟩ := h3.isInt T3 rfl
  obtain ⟨n4, e4, _⟩ := h4.isInt T3 rfl
  obtain ⟨n5, e5, _⟩ := h5.isInt T3 rfl
  obtain ⟨n6, e6, _⟩ := h6.isInt T3 rfl
  obtain ⟨n7, e7⟩ := h7.isBool T4 rfl
  match vs, hl, e0, e1, h2, e3, e4, e5, e6, e7 with
  | [a0, a1, a2, a3, a4, a5, a6, a7, a8], _, e0, e1, h2, e3, e4, e5, e6, e7 =>
    simp at e0 e1 e3 e4 e5 e6 e7
    obtain ⟨rfl, rfl⟩ := e1
    subst e0; subst e3; subst e4; subst e5; subst e6; subst e7
    obtain ⟨rs, q1, q2, q3⟩ := rd_rows ⟨_, T24, .inr ⟨rfl, h2⟩⟩
    exact ⟨⟨n0, n1, n2, rs, n3, n4, n5, n6, n7⟩, a3, rfl, q1, ⟨q2, q3⟩⟩

end Go.Proofs.YtengdmagaeckoaaGreat.VM

/- Chapter 15: the statements' helpers over entries; what every program answers. -/
namespace Go.Proofs.YtengdmagaeckoaaGreat.VM
open Go
set_option linter.unusedVariables false
set_option linter.unusedSimpArgs false
attribute [local irreducible] wq wqL wqD wqE wqO Th Bk EndR
set_option maxHeartbeats 8000000

theorem rd_ents {K : Heap} {D : Type} {v : V} {d : DataW D} (h : RdV T K 57 v d) : ∃ es, Sl 3 entC K v es ∧ es.length * 32 ≤ reachBytes :=
  (h.plain T57 rfl).isSlice T57 rfl T76 fun vs x hr => by
    obtain ⟨hl, hf⟩ := hr.field T76 rfl
    replace hl : vs.length = 3 := hl
    obtain ⟨x0, h0⟩ := hf 0 _ _ rfl T3
    obtain ⟨x1, h1⟩ := hf 1 _ _ rfl T9
    obtain ⟨x2, h2⟩ := hf 2 _ _ rfl T3
    obtain ⟨n0, e0, _⟩ := h0.isInt T3 rfl
    obtain ⟨s, e1, _⟩ := h1.isStr T9 rfl
    obtain ⟨n2, e2, _⟩ := h2.isInt T3 rfl
    match vs, hl, e0, e1, e2 with
    | [a, b, c], _, e0, e1, e2 =>
      simp at e0 e1 e2
      subst e0; subst e1; subst e2
      exact ⟨⟨n0, s, n2⟩, rfl⟩
end Go.Proofs.YtengdmagaeckoaaGreat.VM

/- Layer 15, the plain law: what Put, Drop, Sweep leave. -/
namespace Go.Proofs.YtengdmagaeckoaaGreat.VM
open Go
set_option linter.unusedVariables false
set_option linter.unusedSimpArgs false
attribute [local irreducible] wq wqL wqD wqE wqO Th Bk EndR
set_option maxHeartbeats 8000000

def keyE (e : Ent) : Int × ByteArray := (e.id, e.tx)
theorem store_key {es es' : List Ent} (h : Store es) (hk : es'.map keyE = es.map keyE) (ho : ∀ e ∈ es', entOk e = true) : Store es' := by
  have hl : es'.length = es.length := by have := congrArg List.length hk; simpa using this
  have at_ : ∀ (i : Nat) x, es'[i]? = some x → ∃ y, es[i]? = some y ∧ y.id = x.id ∧ y.tx = x.tx := fun i x hx => by
    have h1 : (es'.map keyE)[i]? = some (keyE x) := by rw [List.getElem?_map, hx]; rfl
    rw [hk, List.getElem?_map] at h1
    cases hy : es[i]? with
    | none => rw [hy] at h1; cases h1
    | some y =>
      rw [hy] at h1
      have := Option.some.inj h1
      unfold keyE at this
      exact ⟨y, rfl, by rw [(Prod.mk.inj this).1], by rw [(Prod.mk.inj this).2]⟩
  refine ⟨by rw [hl]; exact h.len, ho, fun i j x y hij hx hy => ?_, fun i j x y hx hy he => ?_⟩
  · obtain ⟨x', a1, a2, _⟩ := at_ i x hx
    obtain ⟨y', b1, b2, _⟩ := at_ j y hy
    have := h.up i j x' y' hij a1 b1
    omega
  · obtain ⟨x', a1, _, a3⟩ := at_ i x hx
    obtain ⟨y', b1, _, b3⟩ := at_ j y hy
    exact h.one i j x' y' a1 b1 (by rw [a3, b3, he])
theorem bump_key (es : List Ent) (k : Nat) (d : Int) : (bump es k d).map keyE = es.map keyE := by
  unfold bump
  split
  · rfl
  · rename_i e he
    rw [List.map_set]
    apply List.ext_getElem?
    intro i
    by_cases hi : k = i
    · subst hi
      rw [List.getElem?_set_self (by simpa using (List.getElem?_eq_some_iff.1 he).1), List.getElem?_map, he]; rfl
    · rw [List.getElem?_set_ne hi]
theorem bump_store {es : List Ent} (h : Store es) {k : Nat} {e : Ent} (he : es[k]? = some e) {d : Int} (hd : 0 ≤ e.n + d ∧ e.n + d ≤ 8) : Store (bump es k d) := by
  refine store_key h (bump_key es k d) fun x hx => ?_
  rw [bump_at d he] at hx
  rcases List.mem_or_eq_of_mem_set hx with hx | rfl
  · exact h.ok x hx
  · have := h.ok e (List.mem_of_getElem? he)
    unfold entOk at this ⊢
    simp only [Bool.and_eq_true, within_iff] at this ⊢
    exact ⟨this.1, hd⟩
theorem bump_len (es : List Ent) (k : Nat) (d : Int) : (bump es k d).length = es.length := by
  have := congrArg List.length (bump_key es k d); simpa using this
theorem bump_back {es : List Ent} {k : Nat} {e : Ent} (he : es[k]? = some e) : bump (bump es k 1) k (-1) = es := by
  have hlt := (List.getElem?_eq_some_iff.1 he).1
  rw [bump_at (-1) (e := ⟨e.id, e.tx, e.n + 1⟩) (by rw [bump_at 1 he, List.getElem?_set_self hlt]), bump_at 1 he, List.set_set]
  apply List.ext_getElem?
  intro i
  by_cases hi : k = i
  · subst hi
    rw [List.getElem?_set_self hlt, he]
    congr 1
    obtain ⟨a, b, c⟩ := e
    simp only
    congr 1
    omega
  · rw [List.getElem?_set_ne hi]

/-- numbers in a store -/
theorem findN_at {es : List Ent} (h : Store es) {k : Nat} {e : Ent} (he : es[k]? = some e) : findN es e.id = k := by
  have hlt := (List.getElem?_eq_some_iff.1 he).1
  unfold findN
  rw [List.findIdx_eq hlt]
  have hel : es[k] = e := by rw [List.getElem?_eq_getElem hlt] at he; exact Option.some.inj he
  refine ⟨by rw [hel]; exact decide_eq_true rfl, fun j hj => ?_⟩
  have := h.up j k (es[j]'(by omega)) e hj (by simp) he
  simp; omega
theorem get_some {es : List Ent} (h : Store es) {k : Nat} {e : Ent} (he : es[k]? = some e) : getS es e.id = (e.tx, true) := by
  unfold getS
  rw [of_store h, if_neg (by decide), findN_at h he, he]
theorem get_none {es : List Ent} (h : Store es) {id : Int} (hn : ∀ e ∈ es, e.id ≠ id) : getS es id = (⟨#[]⟩, false) := by
  unfold getS
  rw [of_store h, if_neg (by decide)]
  cases hf : es[findN es id]? with
  | none => rfl
  | some e =>
    have hlt := (List.getElem?_eq_some_iff.1 hf).1
    have := List.findIdx_getElem (xs := es) (p := fun e : Ent => decide (e.id = id)) (w := hlt)
    have hel : es[findN es id] = e := by rw [List.getElem?_eq_getElem hlt] at hf; exact Option.some.inj hf
    exact absurd (by rw [← hel]; exact of_decide_eq_true this) (hn e (List.mem_of_getElem? hf))
/-- two stores tell the same of a number -/
theorem get_same {es es' : List Ent} (h : Store es) (h' : Store es') {id : Int} (h1 : ∀ e ∈ es, e.id = id → ∃ x ∈ es', x.id = id ∧ x.tx = e.tx) (h2 : ∀ x ∈ es', x.id = id → ∃ e ∈ es, e.id = id) : getS es' id = getS es id := by
  by_cases hx : ∃ e ∈ es, e.id = id
  · obtain ⟨e, he, hid⟩ := hx
    obtain ⟨x, hxm, hxi, hxt⟩ := h1 e he hid
    obtain ⟨i, hi⟩ := List.mem_iff_getElem?.1 he
    obtain ⟨j, hj⟩ := List.mem_iff_getElem?.1 hxm
    have a := get_some h hi
    have b := get_some h' hj
    rw [hid] at a
    rw [hxi] at b
    rw [a, b, hxt]
  · rw [get_none h fun e he hid => hx ⟨e, he, hid⟩, get_none h' fun x hxm hid => hx (h2 x hxm hid)]
theorem key_mem {es es' : List Ent} (hk : es'.map keyE = es.map keyE) {e : Ent} (he : e ∈ es) : ∃ x ∈ es', x.id = e.id ∧ x.tx = e.tx := by
  have : keyE e ∈ es'.map keyE := by rw [hk]; exact List.mem_map_of_mem he
  obtain ⟨x, hx, hxe⟩ := List.mem_map.1 this
  unfold keyE at hxe
  exact ⟨x, hx, (Prod.mk.inj hxe).1, (Prod.mk.inj hxe).2⟩
theorem get_key {es es' : List Ent} (h : Store es) (h' : Store es') (hk : es'.map keyE = es.map keyE) (id : Int) : getS es' id = getS es id :=
  get_same h h' (fun e he hid => by
    obtain ⟨x, a, b, c⟩ := key_mem hk he
    exact ⟨x, a, by rw [b, hid], c⟩) fun x hx hid => by
    obtain ⟨e, a, b, _⟩ := key_mem hk.symm hx
    exact ⟨e, a, by rw [b, hid]⟩

theorem freeFrom_spec : ∀ (es : List Ent) (k : Nat), ∃ d, freeFrom es k = k + d ∧ d ≤ es.length ∧ (∀ (j : Nat) e, j < d → es[j]? = some e → e.id = ((k + j : Nat) : Int)) ∧ (∀ e, es[d]? = some e → e.id ≠ ((k + d : Nat) : Int))
  | [], k => ⟨0, rfl, by simp, by intro j e h; omega, by simp⟩
  | e :: es, k => by
    by_cases he : e.id = (k : Int)
    · obtain ⟨d, h1, h2, h3, h4⟩ := freeFrom_spec es (k + 1)
      refine ⟨d + 1, ?_, by simpa using h2, fun j x hj hx => ?_, fun x hx => ?_⟩
      · simp only [freeFrom, he, if_true]
        rw [h1]; omega
      · cases j with
        | zero => simp at hx; subst hx; simpa using he
        | succ j =>
          have := h3 j x (by omega) (by simpa using hx)
          rw [this]; congr 1; omega
      · have := h4 x (by simpa using hx)
        rw [show k + (d + 1) = k + 1 + d by omega]
        exact this
    · refine ⟨0, ?_, Nat.zero_le _, by intro j x h; omega, fun x hx => ?_⟩
      · simp only [freeFrom, he, if_false]; rfl
      · simp at hx; subst hx; simpa using he
theorem freeN_spec (es : List Ent) : freeN es ≤ es.length ∧ (∀ (j : Nat) e, j < freeN es → es[j]? = some e → e.id = (j : Int)) ∧ (∀ e, es[freeN es]? = some e → e.id ≠ (freeN es : Int)) := by
  obtain ⟨d, h1, h2, h3, h4⟩ := freeFrom_spec es 0
  have : freeN es = d := by unfold freeN; rw [h1]; omega
  rw [this]
  refine ⟨h2, fun j e hj he => by have := h3 j e hj he; rw [this]; congr 1; omega, fun e he => by have := h4 e he; rwa [Nat.zero_add] at this⟩
/-- behind the place that is free all numbers are greater -/
theorem free_above {es : List Ent} (h : Store es) {j : Nat} {e : Ent} (hj : freeN es ≤ j) (he : es[j]? = some e) : (freeN es : Int) < e.id := by
  obtain ⟨h1, h2, h3⟩ := freeN_spec es
  have base : ∀ x, es[freeN es]? = some x → (freeN es : Int) < x.id := fun x hx => by
    have hne := h3 x hx
    have hok := h.ok x (List.mem_of_getElem? hx)
    unfold entOk at hok
    simp only [Bool.and_eq_true, within_iff] at hok
    have hge : (freeN es : Int) ≤ x.id := by
      cases hz : freeN es with
      | zero => exact hok.1.1.1
      | succ m =>
        rw [hz] at hx h2
        have hlt := (List.getElem?_eq_some_iff.1 hx).1
        have hp : es[m]? = some (es[m]'(by omega)) := by simp
        have a := h2 m _ (Nat.lt_succ_self m) hp
        have b := h.up m (m + 1) _ x (Nat.lt_succ_self m) hp hx
        omega
    omega
  rcases Nat.lt_or_eq_of_le hj with h4 | h4
  · have hlt := (List.getElem?_eq_some_iff.1 he).1
    have hp : es[freeN es]? = some (es[freeN es]'(by omega)) := by simp
    have a := base _ hp
    have b := h.up _ _ _ e h4 hp he
    omega
  · subst h4; exact base e he
def insE (es : List Ent) (s : ByteArray) (n : Int) : List Ent := es.take (freeN es) ++ ⟨(freeN es : Int), s, n⟩ :: es.drop (freeN es)
theorem ins_get {es : List Ent} (s : ByteArray) (n : Int) {i : Nat} {x : Ent} (hx : (insE es s n)[i]? = some x) : (i < freeN es ∧ es[i]? = some x) ∨ (i = freeN es ∧ x = ⟨(freeN es : Int), s, n⟩) ∨ (freeN es < i ∧ es[i - 1]? = some x) := by
  have h1 := (freeN_spec es).1
  have hl : (es.take (freeN es)).length = freeN es := by rw [List.length_take]; omega
  unfold insE at hx
  by_cases hi : i < freeN es
  · rw [List.getElem?_append_left (by omega), List.getElem?_take, if_pos hi] at hx
    exact .inl ⟨hi, hx⟩
  · rw [List.getElem?_append_right (by omega), hl] at hx
    by_cases hi2 : i = freeN es
    · subst hi2
      rw [Nat.sub_self] at hx
      simp at hx
      exact .inr (.inl ⟨rfl, hx.symm⟩)
    · obtain ⟨d, hd⟩ : ∃ d, i - freeN es = d + 1 := ⟨i - freeN es - 1, by omega⟩
      rw [hd, List.getElem?_cons_succ, List.getElem?_drop] at hx
      refine .inr (.inr ⟨by omega, ?_⟩)
      rw [show i - 1 = freeN es + d by omega]
      exact hx
theorem ins_store {es : List Ent} (h : Store es) {s : ByteArray} {n : Int} (ht : textOk s = true) (hn : 0 ≤ n ∧ n ≤ 8) (hno : ∀ e ∈ es, e.tx ≠ s) (hl : es.length < 64) : Store (insE es s n) := by
  obtain ⟨h1, h2, h3⟩ := freeN_spec es
  refine ⟨?_, fun e he => ?_, fun i j x y hij hx hy => ?_, fun i j x y hx hy he => ?_⟩
  · unfold insE
    simp only [List.length_append, List.length_cons, List.length_take, List.length_drop]; omega
  · obtain ⟨i, hi⟩ := List.mem_iff_getElem?.1 he
    rcases ins_get s n hi with ⟨_, g⟩ | ⟨_, rfl⟩ | ⟨_, g⟩
    · exact h.ok e (List.mem_of_getElem? g)
    · show (within (freeN es : Int) 0 1024 && textOk s && within n 0 8) = true
      rw [ht, within_iff.2 ⟨by omega, by omega⟩, within_iff.2 hn]; rfl
    · exact h.ok e (List.mem_of_getElem? g)
  · rcases ins_get s n hx with ⟨a1, a2⟩ | ⟨a1, rfl⟩ | ⟨a1, a2⟩ <;> rcases ins_get s n hy with ⟨b1, b2⟩ | ⟨b1, rfl⟩ | ⟨b1, b2⟩
    · exact h.up i j x y hij a2 b2
    · have := h2 i x a1 a2
      simp only; omega
    · exact h.up i (j - 1) x y (by omega) a2 b2
    · omega
    · omega
    · have := free_above h (j := j - 1) (by omega) b2
      simp only; omega
    · omega
    · omega
    · exact h.up (i - 1) (j - 1) x y (by omega) a2 b2
  · rcases ins_get s n hx with ⟨a1, a2⟩ | ⟨a1, rfl⟩ | ⟨a1, a2⟩ <;> rcases ins_get s n hy with ⟨b1, b2⟩ | ⟨b1, rfl⟩ | ⟨b1, b2⟩
    · exact h.one i j x y a2 b2 he
    · exact absurd he (hno x (List.mem_of_getElem? a2))
    · have := h.one i (j - 1) x y a2 b2 he; omega
    · exact absurd he.symm (hno y (List.mem_of_getElem? b2))
    · omega
    · exact absurd he.symm (hno y (List.mem_of_getElem? b2))
    · have := h.one (i - 1) j x y a2 b2 he; omega
    · exact absurd he (hno x (List.mem_of_getElem? a2))
    · have := h.one (i - 1) (j - 1) x y a2 b2 he; omega
theorem ins_mem {es : List Ent} {s : ByteArray} {n : Int} {e : Ent} : e ∈ insE es s n ↔ e ∈ es ∨ e = ⟨(freeN es : Int), s, n⟩ := by
  unfold insE
  rw [List.mem_append, List.mem_cons]
  constructor
  · rintro (h | rfl | h)
    · exact .inl (List.mem_of_mem_take h)
    · exact .inr rfl
    · exact .inl (List.mem_of_mem_drop h)
  · rintro (h | rfl)
    · rw [← List.take_append_drop (freeN es) es, List.mem_append] at h
      rcases h with h | h
      · exact .inl h
      · exact .inr (.inr h)
    · exact .inr (.inl rfl)
theorem ins_at (es : List Ent) (s : ByteArray) (n : Int) : (insE es s n)[freeN es]? = some ⟨(freeN es : Int), s, n⟩ := by
  have h1 := (freeN_spec es).1
  unfold insE
  rw [List.getElem?_append_right (by rw [List.length_take]; omega), List.length_take, Nat.min_eq_left h1, Nat.sub_self]; rfl

/-- the three ends of Put -/
theorem put_cases (es : List Ent) (s : ByteArray) :
    (∃ e, e ≠ 0 ∧ putS es s = ([], 0, e)) ∨
    (∃ k x, Store es ∧ es[k]? = some x ∧ x.tx = s ∧ x.n ≠ 8 ∧ putS es s = (bump es k 1, x.id, 0)) ∨
    (Store es ∧ textOk s = true ∧ (∀ e ∈ es, e.tx ≠ s) ∧ es.length < 64 ∧ putS es s = (insE es s 1, (freeN es : Int), 0)) := by
  by_cases hm : (storeMay es && textOk s) = true
  · rw [Bool.and_eq_true] at hm
    have h := store_of hm.1
    have hdef : putS es s = (match es[holdsN es s]? with
      | some e => if e.n = 8 then ([], 0, 1501) else (bump es (holdsN es s) 1, e.id, 0)
      | none => if es.length = 64 then ([], 0, 1501) else (insE es s 1, (freeN es : Int), 0)) := by
      unfold putS
      rw [hm.1, hm.2, if_neg (by decide)]
      cases es[holdsN es s]? <;> rfl
    cases hf : es[holdsN es s]? with
    | some e =>
      rw [hf] at hdef
      simp only at hdef
      by_cases h8 : e.n = 8
      · rw [if_pos h8] at hdef
        exact .inl ⟨1501, by decide, hdef⟩
      · rw [if_neg h8] at hdef
        exact .inr (.inl ⟨_, e, h, hf, holdsN_at hf, h8, hdef⟩)
    | none =>
      rw [hf] at hdef
      simp only at hdef
      by_cases h64 : es.length = 64
      · rw [if_pos h64] at hdef
        exact .inl ⟨1501, by decide, hdef⟩
      · rw [if_neg h64] at hdef
        refine .inr (.inr ⟨h, hm.2, fun e he hs => ?_, by have := h.len; omega, hdef⟩)
        obtain ⟨i, hi⟩ := List.mem_iff_getElem?.1 he
        have hge := List.getElem?_eq_none_iff.1 hf
        have hlt := (List.getElem?_eq_some_iff.1 hi).1
        have := holdsN_lt (s := s) (k := i) (by omega) hi
        rw [hs, txEq_self] at this; cases this
  · refine .inl ⟨1500, by decide, ?_⟩
    unfold putS
    rw [if_pos (by simpa using hm)]
theorem drop_at {es : List Ent} (h : Store es) {k : Nat} {x : Ent} (hx : es[k]? = some x) (hn : x.n ≠ 0) : dropS es x.id = (bump es k (-1), 0) := by
  unfold dropS
  rw [of_store h, if_neg (by decide), findN_at h hx, hx]
  simp only
  rw [if_neg hn]
theorem sweep_ok {es : List Ent} (h : Store es) : sweepS es = (es.filter fun e => decide (e.n ≠ 0), 0) := by
  unfold sweepS; rw [of_store h, if_neg (by decide)]

/-- a text put, let go again, and all swept -/
theorem again (es : List Ent) (s : ByteArray) (h : (putS es s).2.2 = 0) : (dropS (putS es s).1 (putS es s).2.1).2 = 0 ∧ (sweepS (dropS (putS es s).1 (putS es s).2.1).1).2 = 0 ∧ (sweepS es).2 = 0 ∧ (sweepS (dropS (putS es s).1 (putS es s).2.1).1).1 = (sweepS es).1 := by
  rcases put_cases es s with ⟨e, he, hp⟩ | ⟨k, x, hs, hx, hxs, h8, hp⟩ | ⟨hs, ht, hno, hl, hp⟩
  · rw [hp] at h; exact absurd h he
  · have hn := ent_n hs hx
    have hlt := (List.getElem?_eq_some_iff.1 hx).1
    have hb := bump_store hs hx (d := 1) (by omega)
    have hd := drop_at hb (k := k) (x := ⟨x.id, x.tx, x.n + 1⟩) (by rw [bump_at 1 hx, List.getElem?_set_self hlt]) (by simp only; omega)
    rw [hp]
    simp only at hd ⊢
    rw [hd]
    simp only
    rw [bump_back hx, sweep_ok hs]
    exact ⟨by trivial, by trivial, by trivial, by trivial⟩
  · have hi := ins_store hs ht (n := 1) (by decide) hno hl
    have hat := ins_at es s 1
    have hd := drop_at hi hat (by simp)
    have hb := bump_store hi hat (d := -1) (by simp only; omega)
    rw [hp]
    simp only at hd ⊢
    rw [hd]
    simp only
    have hbi : bump (insE es s 1) (freeN es) (-1) = insE es s 0 := by
      rw [bump_at (-1) hat]
      have h1 := (freeN_spec es).1
      unfold insE
      rw [List.set_append_right _ _ (by rw [List.length_take]; omega), List.length_take, Nat.min_eq_left h1, Nat.sub_self]
      rfl
    rw [sweep_ok hb, sweep_ok hs, hbi]
    refine ⟨by trivial, by trivial, by trivial, ?_⟩
    unfold insE
    rw [List.filter_append, List.filter_cons_of_neg (by simp)]
    rw [← List.filter_append, List.take_append_drop]

/-- what Put leaves -/
theorem put_leaves (es : List Ent) (s : ByteArray) (h : (putS es s).2.2 = 0) : storeMay (putS es s).1 = true ∧ getS (putS es s).1 (putS es s).2.1 = (s, true) ∧ ∀ o, o ≠ (putS es s).2.1 → getS (putS es s).1 o = getS es o := by
  rcases put_cases es s with ⟨e, he, hp⟩ | ⟨k, x, hs, hx, hxs, h8, hp⟩ | ⟨hs, ht, hno, hl, hp⟩
  · rw [hp] at h; exact absurd h he
  · have hn := ent_n hs hx
    have hlt := (List.getElem?_eq_some_iff.1 hx).1
    have hb := bump_store hs hx (d := 1) (by omega)
    have hg := get_some hb (k := k) (e := ⟨x.id, x.tx, x.n + 1⟩) (by rw [bump_at 1 hx, List.getElem?_set_self hlt])
    rw [hp]
    simp only at hg ⊢
    exact ⟨of_store hb, by rw [hg, hxs], fun o _ => get_key hs hb (bump_key es k 1) o⟩
  · have hi := ins_store hs ht (n := 1) (by decide) hno hl
    have hg := get_some hi (ins_at es s 1)
    rw [hp]
    simp only at hg ⊢
    refine ⟨of_store hi, hg, fun o ho => get_same hs hi (fun e he hid => ⟨e, ins_mem.2 (.inl he), hid, rfl⟩) fun x hx hid => ?_⟩
    rcases ins_mem.1 hx with h1 | rfl
    · exact ⟨x, h1, hid⟩
    · exact absurd hid.symm ho
end Go.Proofs.YtengdmagaeckoaaGreat.VM
