/- Joined texts: StoreA, StoreB, InsA, InsB, InsC, StoreC, StoreD, StoreE, StoreF, TrainG, StoreG, StoreH. -/
import Derived.Test.YtekifjeckbndiaaJS7
import Derived.WalkKit
import Derived.RegionTactic
import Derived.Deep.RegionLaw
import Derived.Lib.Overlaps
import Derived.Shelf.Spec.SlicesInsert
/- Layer 15: the program's texts, entries; places of texts and of numbers. -/
namespace Go.Proofs.Ytekifjeckbndiaa.VM
open Go
set_option linter.unusedVariables false
set_option linter.unusedSimpArgs false
attribute [local irreducible] wq wqL wqD wqE wqO Th Bk EndR
set_option maxHeartbeats 8000000

theorem no_text (s : ByteArray) : (s.toList == ByteArray.toList ⟨#[]⟩) = !(decide (1 ≤ s.size)) := by
  have h := txEq_iff (a := s) (b := ⟨#[]⟩)
  rw [tx_def]
  cases hq : txEq s ⟨#[]⟩ with
  | true =>
    have := h.1 hq
    subst this
    rfl
  | false =>
    have hne : ¬ s.size = 0 := fun h0 => by
      have : s = ⟨#[]⟩ := by
        apply ByteArray.ext
        exact Array.eq_empty_of_size_eq_zero h0
      rw [h.2 this] at hq; cases hq
    have : decide (1 ≤ s.size) = true := decide_eq_true (by omega)
    rw [this]; rfl
theorem str_len0 (s : ByteArray) : builtinP T .len [9] [.str s] = some (.int .i64 (s.size : Int)) := by
  simp only [builtinP, T9]
theorem text_ (H : Heap) (s : ByteArray) : Call Try.prog 70 [.str s] H (.bool (textOk s)) H := by
  refine call_pure fit mixed Try.func70 rfl rfl rfl (by kernel_rfl) rfl fun hM => ?_
  have e := no_text s
  have hl := str_len0 s
  have e2 : decide ((s.size : Int) ≤ 256) = decide (s.size ≤ 256) := by apply Bool.eq_iff_iff.2; simp; omega
  unfold textOk
  obtain ⟨q, hq⟩ : ∃ q, decide (1 ≤ s.size) = q := ⟨_, rfl⟩
  rw [hq] at e ⊢
  clear hq
  cases q
  · refine goM ?_
    exact end_1 (by first | exact .inl rfl | exact .inr rfl) ⟨rfl, List.prefix_refl _⟩
  · refine goM ?_
    refine end_1 (by first | exact .inl rfl | exact .inr rfl) ⟨?_, List.prefix_refl _⟩
    simp

/-- an entry of a slice: where it lies, what is there -/
theorem ent_at {H : Heap} {v : V} {es : List Ent} (h : Sl 3 entC H v es) {k : Nat} {e : Ent} (hk : es[k]? = some e) : ∃ b o, idxV T 66 v (k : Int) = some (.ptr b o) ∧ loadV T 86 H b o = some (.agg (entV e)) ∧ loadV T 3 H b o = some (.int .i64 e.id) ∧ loadV T 9 H b (o + 1) = some (.str e.tx) ∧ loadV T 3 H b (o + 2) = some (.int .i64 e.n) := by
  obtain ⟨b, o, cs, hi, hc, _, hlo, hlc⟩ := h.get T66 rfl T86 rfl hk
  rw [hc] at hlo hlc
  exact ⟨b, o, hi, loadV_agg T86 rfl hlo, loadV_one T3 rfl (hlc 0 _ rfl), loadV_one T9 rfl (hlc 1 _ rfl), loadV_one T3 rfl (hlc 2 _ rfl)⟩

theorem entry_ (H : Heap) (b o : Nat) (e : Ent) (l0 : loadV T 3 H b o = some (.int .i64 e.id)) (l1 : loadV T 9 H b (o + 1) = some (.str e.tx)) (l2 : loadV T 3 H b (o + 2) = some (.int .i64 e.n)) : Call Try.prog 77 [.ptr b o] H (.bool (entOk e)) H := by
  refine call_pure fit mixed Try.func77 rfl rfl rfl (by kernel_rfl) rfl fun hM => ?_
  have c1 := text_ H e.tx
  have h1 : within e.id 0 1024 = (decide (e.id ≥ 0) && decide (e.id ≤ 1024)) := by simp [within]
  have h2 : within e.n 0 8 = (decide (e.n ≥ 0) && decide (e.n ≤ 8)) := by simp [within]
  unfold entOk
  rw [h1, h2]
  obtain ⟨q1, e1⟩ : ∃ q, decide (e.id ≥ 0) = q := ⟨_, rfl⟩
  obtain ⟨q2, e2⟩ : ∃ q, decide (e.id ≤ 1024) = q := ⟨_, rfl⟩
  obtain ⟨q3, e3⟩ : ∃ q, textOk e.tx = q := ⟨_, rfl⟩
  obtain ⟨q4, e4⟩ : ∃ q, decide (e.n ≥ 0) = q := ⟨_, rfl⟩
  obtain ⟨q5, e5⟩ : ∃ q, decide (e.n ≤ 8) = q := ⟨_, rfl⟩
  rw [e3] at c1
  rw [e1, e2, e3, e4, e5]
  clear h1 h2
  cases q1 <;> cases q2 <;> cases q3 <;> cases q4
  all_goals refine goM ?_
  all_goals try (refine l_callG c1 ?_)
  all_goals refine goM ?_
  all_goals exact end_1 (by first | exact .inl rfl | exact .inr rfl) ⟨rfl, List.prefix_refl _⟩

/-- the first that is so; below 0: none -/
def idxR (es : List Ent) (p : Ent → Bool) : Int := if es.findIdx p < es.length then (es.findIdx p : Int) else -1
theorem indexEnt_ (H : Heap) (v : V) (es : List Ent) (g : Nat) (caps : List V) (p : Ent → Bool) (hx : Sl 3 entC H v es) (hl : es.length ≤ 2 ^ 47) (hg : ∀ e ∈ es, Call Try.prog g (.agg (entV e) :: caps) H (.bool (p e)) H) :
    Call Try.prog 102 [v, .fn g caps] H (.int .i64 (idxR es p)) H := by
  refine call_pure fit mixed Try.func102 rfl rfl rfl (by kernel_rfl) rfl fun hM => ?_
  obtain ⟨n, hn⟩ : ∃ n, es.length = n := ⟨_, rfl⟩
  have hlen := hx.len T66 rfl
  rw [hn] at hlen
  obtain ⟨k0, hk0⟩ : ∃ k, es.findIdx p = k := ⟨_, rfl⟩
  have hkn : k0 ≤ n := by rw [← hk0, ← hn]; exact List.findIdx_le_length
  have hres : idxR es p = if k0 < n then (k0 : Int) else -1 := by unfold idxR; rw [hk0, hn]
  refine goM ?_
  refine wq_loop (fun c ρ h => ∃ k, k ≤ k0 ∧ c = n - k ∧ h = H ∧ ρ 0 = v ∧ ρ 1 = .fn g caps ∧ ρ 7 = .int .i64 (n : Int) ∧ ρ 8 = .int .i64 (k : Int)) ⟨0, Nat.zero_le _, rfl, rfl, rfl, rfl, rfl, rfl⟩ ?_
  clear hM
  rintro _ ρ h ⟨k, hk, rfl, rfl, h0, h1, h7, h8⟩
  refine goM ?_
  refine cond_go (fun hb => ?_) (fun hb => ?_)
  · have hk' : k < n := by simpa using hb
    clear hb
    obtain ⟨e, he⟩ : ∃ e, es[k]? = some e := ⟨es[k]'(by omega), by simp⟩
    obtain ⟨b, o, hi, hlo, _⟩ := ent_at hx he
    have hw := wrap_succ (n := k) (by omega)
    have c1 := hg e (List.mem_of_getElem? he)
    have hpe : p e = decide (k = k0) := by
      have hkl : k < es.length := by omega
      have hek : es[k] = e := by rw [List.getElem?_eq_getElem hkl] at he; exact Option.some.inj he
      by_cases hkk : k < k0
      · have := List.not_of_lt_findIdx (xs := es) (p := p) (i := k) (by omega)
        rw [hek] at this
        rw [this]; exact (decide_eq_false (by omega)).symm
      · obtain rfl : k = k0 := by omega
        have := List.findIdx_getElem (xs := es) (p := p) (w := by omega)
        rw [decide_eq_true rfl, ← hek]
        simpa [hk0] using this
    rw [hpe] at c1
    clear he hpe hlen
    by_cases hkk : k = k0
    · rw [decide_eq_true hkk] at c1
      rw [if_pos (by omega), ← hkk] at hres
      rw [hres]
      clear hres hk0 hkk hk hkn
      refine goM ?_
      refine l_callG c1 ?_
      refine goM ?_
      exact end_1 (by first | exact .inl rfl | exact .inr rfl) ⟨rfl, List.prefix_refl _⟩
    · rw [decide_eq_false hkk] at c1
      have hk1 : k + 1 ≤ k0 := by omega
      clear hres hk0 hkk
      refine goM ?_
      refine l_callG c1 ?_
      refine goM ?_
      exact ⟨n - (k + 1), by omega, k + 1, hk1, rfl, rfl, by simp [put_app, put_none, *]⟩
  · have hk' : k = n := by have : ¬ k < n := by simpa using hb
                           omega
    clear hb
    rw [if_neg (by omega)] at hres
    rw [hres]
    clear hres hk0
    refine goM ?_
    exact end_1 (by first | exact .inl rfl | exact .inr rfl) ⟨rfl, List.prefix_refl _⟩

theorem holds1_ (H : Heap) (b : Nat) (e : Ent) (s : ByteArray) (hb : H[b]? = some (.row [.str s] true)) : Call Try.prog 103 [.agg (entV e), .ptr b 0] H (.bool (txEq e.tx s)) H := by
  refine call_pure fit mixed Try.func103 rfl rfl rfl (by kernel_rfl) rfl fun hM => ?_
  refine wq_seq (wq_line ?_)
  have hl0 : loadV T 9 H b 0 = some (.str s) := ld_cell T9 rfl hb rfl
  refine l_boxM T86 fun b1 H1 hM => ?_
  have hl := loadV_pre hM.pre hl0
  have htd := tx_def e.tx s
  refine goM ?_
  exact end_1 (by first | exact .inl rfl | exact .inr rfl) ⟨rfl, hM.pre⟩
/-- the place of a text as the program tells it -/
def holdsR (es : List Ent) (s : ByteArray) : Int := if holdsN es s < es.length then (holdsN es s : Int) else -1
theorem holds_ (H : Heap) (v : V) (es : List Ent) (s : ByteArray) (hx : Sl 3 entC H v es) (hl : es.length ≤ 2 ^ 47) : Call Try.prog 72 [v, .str s] H (.int .i64 (holdsR es s)) H := by
  refine call_pure fit mixed Try.func72 rfl rfl rfl (by kernel_rfl) rfl fun hM => ?_
  refine wq_seq (wq_line ?_)
  refine l_boxM T9 fun b1 H1 hM => ?_
  have c1 := indexEnt_ H1 v es 103 [.ptr b1 0] (fun e => txEq e.tx s) (hx.mono hM.pre) hl (fun e _ => holds1_ H1 b1 e s (hM.row .here))
  have hr : idxR es (fun e => txEq e.tx s) = holdsR es s := rfl
  rw [hr] at c1
  refine goM ?_
  refine l_callG c1 ?_
  refine goM ?_
  exact end_1 (by first | exact .inl rfl | exact .inr rfl) ⟨rfl, hM.pre⟩
end Go.Proofs.Ytekifjeckbndiaa.VM

/- Layer 15: the program's search of a number; May. -/
namespace Go.Proofs.Ytekifjeckbndiaa.VM
open Go
set_option linter.unusedVariables false
set_option linter.unusedSimpArgs false
attribute [local irreducible] wq wqL wqD wqE wqO Th Bk EndR
set_option maxHeartbeats 8000000

def cmpI (a b : Int) : Int := if a < b then -1 else if a > b then 1 else 0
theorem isNaN_ (H : Heap) (a : Int) : Call Try.prog 130 [.int .i64 a] H (.bool false) H := by
  refine call_pure fit mixed Try.func130 rfl rfl rfl (by kernel_rfl) rfl fun hM => ?_
  refine goM ?_
  exact end_1 (by first | exact .inl rfl | exact .inr rfl) ⟨rfl, List.prefix_refl _⟩
theorem compare_ (H : Heap) (a b : Int) : Call Try.prog 108 [.int .i64 a, .int .i64 b] H (.int .i64 (cmpI a b)) H := by
  refine call_pure fit mixed Try.func108 rfl rfl rfl (by kernel_rfl) rfl fun hM => ?_
  refine goM ?_
  refine l_callG (isNaN_ H a) ?_
  refine goM ?_
  refine l_callG (isNaN_ H b) ?_
  unfold cmpI
  by_cases h1 : a < b
  · have d1 := decide_eq_true h1
    rw [if_pos h1]
    clear h1
    refine goM ?_
    exact end_1 (by first | exact .inl rfl | exact .inr rfl) ⟨rfl, List.prefix_refl _⟩
  · have d1 := decide_eq_false h1
    rw [if_neg h1]
    clear h1
    by_cases h2 : a > b
    · have d2 := decide_eq_true h2
      rw [if_pos h2]
      clear h2
      refine goM ?_
      exact end_1 (by first | exact .inl rfl | exact .inr rfl) ⟨rfl, List.prefix_refl _⟩
    · have d2 := decide_eq_false h2
      rw [if_neg h2]
      clear h2
      refine goM ?_
      exact end_1 (by first | exact .inl rfl | exact .inr rfl) ⟨rfl, List.prefix_refl _⟩
theorem find1_ (H : Heap) (e : Ent) (id : Int) : Call Try.prog 107 [.agg (entV e), .int .i64 id] H (.int .i64 (cmpI e.id id)) H := by
  refine call_pure fit mixed Try.func107 rfl rfl rfl (by kernel_rfl) rfl fun hM => ?_
  refine wq_seq (wq_line ?_)
  refine l_boxM T86 fun b1 H1 hM => ?_
  refine goM ?_
  refine l_callG (compare_ _ _ _) ?_
  refine goM ?_
  exact end_1 (by first | exact .inl rfl | exact .inr rfl) ⟨rfl, hM.pre⟩

/-- the first whose number is not less -/
def lowN (es : List Ent) (id : Int) : Nat := es.findIdx fun e => decide (e.id ≥ id)
def isN (es : List Ent) (id : Int) : Bool := match es[lowN es id]? with
  | none => false
  | some e => decide (e.id = id)
theorem lowN_le (es : List Ent) (id : Int) : lowN es id ≤ es.length := List.findIdx_le_length
theorem lowN_lt {es : List Ent} {id : Int} {k : Nat} {e : Ent} (hk : k < lowN es id) (h : es[k]? = some e) : e.id < id := by
  obtain ⟨hlt, rfl⟩ := List.getElem?_eq_some_iff.1 h
  have := List.not_of_lt_findIdx (xs := es) (p := fun e : Ent => decide (e.id ≥ id)) hk
  simp at this; omega
theorem lowN_at {es : List Ent} {id : Int} {e : Ent} (h : es[lowN es id]? = some e) : e.id ≥ id := by
  obtain ⟨hlt, rfl⟩ := List.getElem?_eq_some_iff.1 h
  have := List.findIdx_getElem (xs := es) (p := fun e : Ent => decide (e.id ≥ id)) (w := hlt)
  simpa [lowN] using this
theorem lowN_ge {es : List Ent} (hs : Store es) {id : Int} {k : Nat} {e : Ent} (hk : lowN es id ≤ k) (h : es[k]? = some e) : e.id ≥ id := by
  have hlt := (List.getElem?_eq_some_iff.1 h).1
  have hx : es[lowN es id]? = some (es[lowN es id]'(by omega)) := by simp
  have h0 := lowN_at hx
  rcases Nat.lt_or_eq_of_le hk with h1 | h1
  · have := hs.up _ _ _ _ h1 hx h
    omega
  · subst h1
    rw [h] at hx
    cases hx
    omega
theorem half_sh {i j : Nat} (h : i + j ≤ 1000) : vbin T .shr 52 (.int .u64 ((i + j : Nat) : Int)) (.int .u64 1) = some (.int .u64 (((i + j) / 2 : Nat) : Int)) := by
  simp only [vbin, shiftBin]
  rw [if_neg (by decide)]
  have : (2 : Int) ^ min (Int.toNat 1) IntKind.u64.bits = 2 := by decide
  rw [this, Int.fdiv_eq_ediv_of_nonneg _ (by decide)]
  congr 2
theorem u64_small {n : Nat} (h : n ≤ 1000) : IntKind.u64.wrap (n : Int) = n := by
  unfold IntKind.wrap
  simp only [IntKind.bits, IntKind.signed, Bool.false_and, Bool.false_eq_true, if_false, Int.reducePow]
  omega

theorem search_ (H : Heap) (v : V) (es : List Ent) (id : Int) (hx : Sl 3 entC H v es) (hs : Store es) :
    Call Try.prog 106 [v, .int .i64 id, .fn 107 []] H (.tup [.int .i64 (lowN es id : Int), .bool (isN es id)]) H := by
  refine call_pure fit mixed Try.func106 rfl rfl rfl (by kernel_rfl) rfl fun hM => ?_
  obtain ⟨n, hn⟩ : ∃ n, es.length = n := ⟨_, rfl⟩
  have hn64 := hs.len
  have hlen := hx.len T66 rfl
  rw [hn] at hlen hn64
  obtain ⟨l, hl⟩ : ∃ l, lowN es id = l := ⟨_, rfl⟩
  have hln : l ≤ n := by rw [← hl, ← hn]; exact lowN_le es id
  refine goM ?_
  refine wq_loop (fun c ρ h => ∃ i j : Nat, i ≤ l ∧ l ≤ j ∧ j ≤ n ∧ c = j - i ∧ h = H ∧ ρ 0 = v ∧ ρ 1 = .int .i64 id ∧ ρ 2 = .fn 107 [] ∧ ρ 8 = .int .i64 (n : Int) ∧ ρ 9 = .int .i64 (i : Int) ∧ ρ 10 = .int .i64 (j : Int)) ⟨0, n, Nat.zero_le _, hln, Nat.le_refl _, rfl, rfl, rfl, rfl, rfl, rfl, rfl, rfl⟩ ?_
  clear hM
  rintro _ ρ h ⟨i, j, hi, hj, hjn, rfl, rfl, g0, g1, g2, g8, g9, g10⟩
  refine goM ?_
  refine cond_go (fun hb => ?_) (fun hb => ?_)
  · have hij : i < j := by simpa using hb
    clear hb
    obtain ⟨m, hm⟩ : ∃ m, (i + j) / 2 = m := ⟨_, rfl⟩
    have hm1 : i ≤ m := by omega
    have hm2 : m < j := by omega
    have w1 : IntKind.i64.wrap ((i : Int) + (j : Int)) = ((i + j : Nat) : Int) := by rw [wrap_i64 (by omega) (by omega)]; omega
    have w2 := u64_small (n := i + j) (by omega)
    have hsh := half_sh (i := i) (j := j) (by omega)
    rw [hm] at hsh
    have w3 : IntKind.i64.wrap (m : Int) = m := wrap_nat (by omega)
    have w4 := wrap_succ (n := m) (by omega)
    obtain ⟨e, he⟩ : ∃ e, es[m]? = some e := ⟨es[m]'(by omega), by simp⟩
    obtain ⟨b, o, hie, hlo, _⟩ := ent_at hx he
    have c1 := find1_ h e id
    have hlow : decide (cmpI e.id id < 0) = decide (m < l) := by
      by_cases hml : m < l
      · have : e.id < id := lowN_lt (by omega) he
        unfold cmpI
        rw [if_pos this, decide_eq_true hml]; rfl
      · have : e.id ≥ id := lowN_ge hs (by omega) he
        have : 0 ≤ cmpI e.id id := by unfold cmpI; rw [if_neg (by omega)]; split <;> omega
        rw [decide_eq_false hml, decide_eq_false (by omega)]
    by_cases hml : m < l
    · have e2 := decide_eq_true hml
      rw [e2] at hlow
      clear he hm e2 hlen
      repeat (first | (refine l_pl ?_; refine l_step (s_bin eLk eLk hsh) ?_) | (refine l_pl ?_; refine l_goM ?_) | (refine d_pl ?_; refine d_goM ?_) | (refine l_gd ?_; first | refine l_onG ?_ | refine l_offG ?_ | refine l_offU ?_) | (refine d_gd ?_; first | refine d_onG ?_ | refine d_offG ?_ | refine d_offU ?_) | (refine cond_pl ?_; first | refine cond_yes ?_ | refine cond_no ?_) | refine wq_seq ?_ | refine wq_line ?_ | refine wq_draw (by decide +kernel) ?_ | refine wq_block ?_ | refine l_nil ?_ | refine d_nil ?_ | refine wq_skip ?_ | refine wq_ret ?_ | refine wq_exit ?_ | refine th_normal ?_ | refine th_ret ?_ | refine th_exit ?_ | refine bk_normal ?_ | refine bk_ret ?_ | refine bk_exit ?_ | refine bk_other rfl ?_)
      refine l_callG c1 ?_
      refine goM ?_
      exact ⟨j - (m + 1), by omega, m + 1, j, hml, hj, hjn, rfl, rfl, by simp [put_app, put_none, *]⟩
    · have e2 := decide_eq_false hml
      rw [e2] at hlow
      have hlm : l ≤ m := by omega
      have hmn : m ≤ n := by omega
      clear he hm e2 hlen hml
      repeat (first | (refine l_pl ?_; refine l_step (s_bin eLk eLk hsh) ?_) | (refine l_pl ?_; refine l_goM ?_) | (refine d_pl ?_; refine d_goM ?_) | (refine l_gd ?_; first | refine l_onG ?_ | refine l_offG ?_ | refine l_offU ?_) | (refine d_gd ?_; first | refine d_onG ?_ | refine d_offG ?_ | refine d_offU ?_) | (refine cond_pl ?_; first | refine cond_yes ?_ | refine cond_no ?_) | refine wq_seq ?_ | refine wq_line ?_ | refine wq_draw (by decide +kernel) ?_ | refine wq_block ?_ | refine l_nil ?_ | refine d_nil ?_ | refine wq_skip ?_ | refine wq_ret ?_ | refine wq_exit ?_ | refine th_normal ?_ | refine th_ret ?_ | refine th_exit ?_ | refine bk_normal ?_ | refine bk_ret ?_ | refine bk_exit ?_ | refine bk_other rfl ?_)
      refine l_callG c1 ?_
      refine goM ?_
      exact ⟨m - i, by omega, i, m, hi, hlm, hmn, rfl, rfl, by simp [put_app, put_none, *]⟩
  · have hij : ¬ i < j := by simpa using hb
    clear hb
    obtain rfl : i = l := by omega
    unfold isN
    rw [hl]
    by_cases hin : i < n
    · obtain ⟨e, he⟩ : ∃ e, es[i]? = some e := ⟨es[i]'(by omega), by simp⟩
      obtain ⟨b, o, hie, hlo, _⟩ := ent_at hx he
      have c1 := find1_ h e id
      have hd : decide ((i : Int) < (n : Int)) = true := decide_eq_true (by omega)
      have heq : (cmpI e.id id == 0) = decide (e.id = id) := by
        unfold cmpI
        by_cases h1 : e.id < id
        · rw [if_pos h1, decide_eq_false (by omega)]; rfl
        · rw [if_neg h1]
          by_cases h2 : e.id > id
          · rw [if_pos h2, decide_eq_false (by omega)]; rfl
          · rw [if_neg h2, decide_eq_true (by omega)]; rfl
      rw [he]
      clear hl hln hi hj hij hin he hlen
      refine goM ?_
      refine l_callG c1 ?_
      refine goM ?_
      exact end_2 (by first | exact .inl rfl | exact .inr rfl) ⟨rfl, List.prefix_refl _⟩
    · have hd : decide ((i : Int) < (n : Int)) = false := decide_eq_false (by omega)
      rw [List.getElem?_eq_none (by omega)]
      clear hl hln hi hj hij hin hlen
      refine goM ?_
      exact end_2 (by first | exact .inl rfl | exact .inr rfl) ⟨rfl, List.prefix_refl _⟩

theorem find_ (H : Heap) (v : V) (es : List Ent) (id : Int) (hx : Sl 3 entC H v es) (hs : Store es) :
    Call Try.prog 74 [v, .int .i64 id] H (.tup [.int .i64 (lowN es id : Int), .bool (isN es id)]) H := by
  refine call_pure fit mixed Try.func74 rfl rfl rfl (by kernel_rfl) rfl fun hM => ?_
  refine goM ?_
  refine l_callG (search_ H v es id hx hs) ?_
  refine goM ?_
  exact end_2 (by first | exact .inl rfl | exact .inr rfl) ⟨rfl, List.prefix_refl _⟩
/-- the search finds the number's own place -/
theorem find_some {es : List Ent} (hs : Store es) {id : Int} (h : isN es id = true) : ∃ e, es[lowN es id]? = some e ∧ e.id = id ∧ findN es id = lowN es id := by
  unfold isN at h
  split at h
  · cases h
  · rename_i e he
    have hid : e.id = id := by simpa using h
    refine ⟨e, he, hid, ?_⟩
    have hlt := (List.getElem?_eq_some_iff.1 he).1
    unfold findN
    rw [List.findIdx_eq hlt]
    have hel : es[lowN es id] = e := by rw [List.getElem?_eq_getElem hlt] at he; exact Option.some.inj he
    refine ⟨by rw [hel]; exact decide_eq_true hid, fun j hj => ?_⟩
    have := lowN_lt hj (e := es[j]'(by omega)) (by simp)
    simp; omega
theorem find_none {es : List Ent} (hs : Store es) {id : Int} (h : isN es id = false) : es[findN es id]? = none := by
  rw [List.getElem?_eq_none_iff]
  apply Nat.le_of_not_lt
  intro hlt
  have hx : es[findN es id]? = some (es[findN es id]) := by simp [hlt]
  have hid : (es[findN es id]).id = id := by
    have := List.findIdx_getElem (xs := es) (p := fun e : Ent => decide (e.id = id)) (w := hlt)
    exact of_decide_eq_true this
  have hle : lowN es id ≤ findN es id := by
    apply Nat.le_of_not_lt
    intro h1
    have := lowN_lt h1 hx
    omega
  rcases Nat.lt_or_eq_of_le hle with h1 | h1
  · have hy : es[lowN es id]? = some (es[lowN es id]'(by omega)) := by simp
    have h2 := lowN_at hy
    have h3 := hs.up _ _ _ _ h1 hy hx
    omega
  · unfold isN at h
    rw [h1, hx] at h
    simp [hid] at h

theorem okAt_zero {es : List Ent} {e : Ent} (h : es[0]? = some e) : okAt es 0 = (entOk e && decide (holdsN es e.tx = 0)) := by
  unfold okAt; rw [h]; simp
theorem okAt_succ {es : List Ent} {e p : Ent} {k : Nat} (h : es[k + 1]? = some e) (hp : es[k]? = some p) : okAt es (k + 1) = ((entOk e && decide (p.id < e.id)) && decide (holdsN es e.tx = k + 1)) := by
  unfold okAt; rw [h]; simp only [hp]
theorem may_fail {es : List Ent} {k : Nat} (hk : k < es.length) (h : okAt es k = false) : storeMay es = false := by
  rw [Bool.eq_false_iff]; intro hm
  unfold storeMay at hm
  simp only [Bool.and_eq_true, decide_eq_true_eq, List.all_eq_true, List.mem_range] at hm
  rw [hm.2 k hk] at h; cases h
theorem holdsR_own {es : List Ent} {k : Nat} {e : Ent} (h : es[k]? = some e) : holdsR es e.tx = (holdsN es e.tx : Int) := by
  unfold holdsR
  rw [if_pos ?_]
  apply Nat.lt_of_le_of_lt _ (List.getElem?_eq_some_iff.1 h).1
  apply Nat.le_of_not_lt
  intro hlt
  have := holdsN_lt hlt h
  rw [txEq_self] at this; cases this

theorem storeMay_ (H : Heap) (v : V) (es : List Ent) (hx : Sl 3 entC H v es) (hl : es.length ≤ 2 ^ 47) : Call Try.prog 42 [v] H (.bool (storeMay es)) H := by
  refine call_pure fit mixed Try.func42 rfl rfl rfl (by kernel_rfl) rfl fun hM => ?_
  obtain ⟨n, hn⟩ : ∃ n, es.length = n := ⟨_, rfl⟩
  have hlen := hx.len T66 rfl
  rw [hn] at hlen
  by_cases h64 : 64 < n
  · have d : decide ((n : Int) > 64) = true := decide_eq_true (by omega)
    have hres : storeMay es = false := by
      rw [Bool.eq_false_iff]; intro hm
      have := (store_of hm).len
      omega
    rw [hres]
    clear h64 hres
    refine goM ?_
    exact end_1 (by first | exact .inl rfl | exact .inr rfl) ⟨rfl, List.prefix_refl _⟩
  have d : decide ((n : Int) > 64) = false := decide_eq_false (by omega)
  refine goM ?_
  clear d
  refine wq_loop (fun c ρ h => ∃ k : Nat, k ≤ n ∧ c = n - k ∧ h = H ∧ (∀ j, j < k → okAt es j = true) ∧ ρ 0 = v ∧ ρ 8 = .int .i64 (n : Int) ∧ ρ 9 = .int .i64 (k : Int)) ⟨0, Nat.zero_le _, rfl, rfl, by intro j hj; omega, rfl, rfl, rfl⟩ ?_
  clear hM
  rintro _ ρ h ⟨k, hk, rfl, rfl, hgood, g0, g8, g9⟩
  refine goM ?_
  refine cond_go (fun hb => ?_) (fun hb => ?_)
  · have hk' : k < n := by simpa using hb
    clear hb
    obtain ⟨e, he⟩ : ∃ e, es[k]? = some e := ⟨es[k]'(by omega), by simp⟩
    obtain ⟨b, o, hie, hlo, l0, l1, l2⟩ := ent_at hx he
    have c1 := entry_ h b o e l0 l1 l2
    have c2 := holds_ h v es e.tx hx hl
    rw [holdsR_own he] at c2
    have hw := wrap_succ (n := k) (by omega)
    have hfail := fun hq => may_fail (es := es) (k := k) (by omega) hq
    have hne : (((holdsN es e.tx : Nat) : Int) != (k : Int)) = !decide (holdsN es e.tx = k) := by
      by_cases hq : holdsN es e.tx = k
      · rw [decide_eq_true hq, hq]; simp
      · rw [decide_eq_false hq]; simp; omega
    obtain ⟨hN, hhN⟩ : ∃ x, ((holdsN es e.tx : Nat) : Int) = x := ⟨_, rfl⟩
    rw [hhN] at c2 hne
    have hnext : okAt es k = true → ∀ j, j < k + 1 → okAt es j = true := fun ho j hj => by
      rcases Nat.lt_or_eq_of_le (Nat.le_of_lt_succ hj) with h1 | h1
      · exact hgood j h1
      · subst h1; exact ho
    cases k with
    | zero =>
      have hoe := okAt_zero he
      have z0 : decide (((0 : Nat) : Int) > 0) = false := by decide
      obtain ⟨q1, e1⟩ : ∃ q, entOk e = q := ⟨_, rfl⟩
      obtain ⟨q3, e3⟩ : ∃ q, decide (holdsN es e.tx = 0) = q := ⟨_, rfl⟩
      rw [e1, e3] at hoe
      rw [e3] at hne
      rw [e1] at c1
      clear e1 e3 hhN hgood he hlo l2 hlen
      cases q1 with
      | false =>
        rw [hfail hoe]
        clear hfail hnext hne
        refine goM ?_
        refine d_call0G c1 ?_
        refine goM ?_
        exact end_1 (by first | exact .inl rfl | exact .inr rfl) ⟨rfl, List.prefix_refl _⟩
      | true =>
        cases q3 with
        | false =>
          rw [hfail hoe]
          clear hfail hnext
          refine goM ?_
          refine d_call0G c1 ?_
          refine goM ?_
          refine d_call0G c2 ?_
          refine goM ?_
          exact end_1 (by first | exact .inl rfl | exact .inr rfl) ⟨rfl, List.prefix_refl _⟩
        | true =>
          have hg := hnext hoe
          clear hfail hnext hoe
          refine goM ?_
          refine d_call0G c1 ?_
          refine goM ?_
          refine d_call0G c2 ?_
          refine goM ?_
          exact ⟨n - 1, by omega, 1, hk', rfl, rfl, hg, by simp [put_app, put_none, *]⟩
    | succ k =>
      obtain ⟨p, hp⟩ : ∃ p, es[k]? = some p := ⟨es[k]'(by omega), by simp⟩
      obtain ⟨b2, o2, hip, _, m0, _⟩ := ent_at hx hp
      have hoe := okAt_succ he hp
      have z0 : decide (((k + 1 : Nat) : Int) > 0) = true := decide_eq_true (by omega)
      have wk : IntKind.i64.wrap (((k + 1 : Nat) : Int) - 1) = (k : Int) := by rw [wrap_i64 (by omega) (by omega)]; omega
      have hcmp : decide (p.id ≥ e.id) = !decide (p.id < e.id) := by apply Bool.eq_iff_iff.2; simp
      obtain ⟨q1, e1⟩ : ∃ q, entOk e = q := ⟨_, rfl⟩
      obtain ⟨q2, e2⟩ : ∃ q, decide (p.id < e.id) = q := ⟨_, rfl⟩
      obtain ⟨q3, e3⟩ : ∃ q, decide (holdsN es e.tx = k + 1) = q := ⟨_, rfl⟩
      rw [e1, e2, e3] at hoe
      rw [e3] at hne
      rw [e1] at c1
      rw [e2] at hcmp
      clear e1 e2 e3 hhN hgood he hp hlo l2 hlen
      cases q1 with
      | false =>
        rw [hfail hoe]
        clear hfail hnext hne hcmp
        refine goM ?_
        refine d_call0G c1 ?_
        refine goM ?_
        exact end_1 (by first | exact .inl rfl | exact .inr rfl) ⟨rfl, List.prefix_refl _⟩
      | true =>
        cases q2 with
        | false =>
          rw [hfail hoe]
          clear hfail hnext hne
          refine goM ?_
          refine d_call0G c1 ?_
          refine goM ?_
          exact end_1 (by first | exact .inl rfl | exact .inr rfl) ⟨rfl, List.prefix_refl _⟩
        | true =>
          cases q3 with
          | false =>
            rw [hfail hoe]
            clear hfail hnext
            refine goM ?_
            refine d_call0G c1 ?_
            refine goM ?_
            refine d_call0G c2 ?_
            refine goM ?_
            exact end_1 (by first | exact .inl rfl | exact .inr rfl) ⟨rfl, List.prefix_refl _⟩
          | true =>
            have hg := hnext hoe
            clear hfail hnext hoe
            refine goM ?_
            refine d_call0G c1 ?_
            refine goM ?_
            refine d_call0G c2 ?_
            refine goM ?_
            exact ⟨n - (k + 1 + 1), by omega, k + 1 + 1, hk', rfl, rfl, hg, by simp [put_app, put_none, *]⟩
  · have hk' : k = n := by have : ¬ k < n := by simpa using hb
                           omega
    subst hk'
    have hres : storeMay es = true := by
      unfold storeMay
      simp only [Bool.and_eq_true, decide_eq_true_eq, List.all_eq_true, List.mem_range]
      exact ⟨by omega, fun i hi => hgood i (by omega)⟩
    rw [hres]
    clear hb hres hgood
    refine goM ?_
    exact end_1 (by first | exact .inl rfl | exact .inr rfl) ⟨rfl, List.prefix_refl _⟩
end Go.Proofs.Ytekifjeckbndiaa.VM

/- slices.Insert of one entry: where there is room and it is not at the end. -/
namespace Go.Proofs.Ytekifjeckbndiaa.VM
open Go Go.RowKit Go.Lib
set_option linter.unusedVariables false
set_option linter.unusedSimpArgs false
set_option maxHeartbeats 8000000

set_option maxRecDepth 100000 in
theorem insert_walk (B o n c i B2 o2 c2 : Nat) (w w1 w2 : World) (hi : i < n) (hn : n ≤ 64) (hc : n + 1 ≤ c)
    (hov : ∀ lb cb, (callFunc 104 #[.slice (some ⟨B2, o2, none⟩) 1 c2, .slice (some ⟨B, o + (i + 1) * 3, none⟩) lb cb]).run Try.prog w = .ok (.value (.bool false)) w)
    (hcp1 : ∀ ty, (Builtin.copy_ #[66, 66] ty #[.slice (some ⟨B, o + (i + 1) * 3, none⟩) (n - i) (c - (i + 1)), .slice (some ⟨B, o + i * 3, none⟩) (n + 1 - i) (c - i)]).run Try.prog w.drew = .ok (.int .i64 (n - i : Nat)) w1)
    (hcp2 : ∀ ty, (Builtin.copy_ #[66, 66] ty #[.slice (some ⟨B, o + i * 3, none⟩) (n + 1 - i) (c - i), .slice (some ⟨B2, o2, none⟩) 1 c2]).run Try.prog w1 = .ok (.int .i64 1) w2) :
    Calls Try.prog 73 #[.slice (some ⟨B, o, none⟩) n c, .int .i64 i, .slice (some ⟨B2, o2, none⟩) 1 c2] w fun e w' => e = .returned (.slice (some ⟨B, o, none⟩) (n + 1) c) ∧ w' = w2 := by
  have hz2 : ¬ ((i : Int) = (n : Int)) := by omega
  have hw1 : IntKind.i64.wrap ((i : Int) + 1) = (i : Int) + 1 := wrap_i64 (by omega) (by omega)
  have hw2 : IntKind.i64.wrap ((n : Int) + 1) = (n : Int) + 1 := wrap_i64 (by omega) (by omega)
  have hb3 : (i : Int) ≤ (n : Int) + 1 := by omega
  have hin : i ≤ n := by omega
  have hb1 : (0 : Int) ≤ (i : Int) + 1 := by omega
  have hb2 : ¬ (c = i + 1) := by omega
  have hb4 : ¬ (c = i) := by omega
  have htn : ((i : Int) + 1).toNat = i + 1 := by omega
  go_enter Try.func73, Try.ntmps73
  go_wp2_with (simp only [hov])
  have mixed' := mixed
  go_region_law_o (refine step_copy_runI rfl _ _ 66 66 rfl _ _ (by simp [Act.eval, Act.put]) (by simp [Act.eval, Act.put]) (hcp1 _) ?_)
  go_wp2_with (at_builtin; refine wpList_copy_runI _ rfl _ _ 66 66 rfl _ _ rfl rfl (hcp2 _) ?_)
  go_ret
  exact ⟨rfl, rfl⟩
end Go.Proofs.Ytekifjeckbndiaa.VM

/- slices.Insert of one entry that is not at the end: its contract. -/
namespace Go.Proofs.Ytekifjeckbndiaa.VM
open Go
set_option linter.unusedVariables false
set_option linter.unusedSimpArgs false
attribute [local irreducible] wq wqL wqD wqE wqO Th Bk EndR
set_option maxHeartbeats 8000000

/-- the cells behind an insertion -/
def insCells (cs ds : List V) (i n : Nat) : List V := cs.take (i * 3) ++ ds ++ (cs.drop (i * 3)).take ((n - i) * 3)

theorem Cells.drop {α : Type} {sz : Nat} {R : List V → α → Prop} {cs : List V} {xs : List α} (h : Cells sz R cs xs) (n : Nat) (hn : n ≤ xs.length) : Cells sz R (cs.drop (n * sz)) (xs.drop n) := by
  refine ⟨by rw [List.length_drop, List.length_drop, h.1, Nat.sub_mul], fun k x hk => ?_⟩
  rw [List.getElem?_drop] at hk
  have := h.2 _ x hk
  rw [List.drop_drop, ← Nat.add_mul]
  exact this
theorem ins_cells {cs : List V} {es : List Ent} {e : Ent} {i : Nat} (h : At0 3 entC cs es) (hi : i ≤ es.length) : Cells 3 entC (insCells cs (entV e) i es.length) (es.take i ++ e :: es.drop i) := by
  have h1 := h.2.take i hi
  have h2 := h.2.drop i hi
  have e1 : (cs.take (es.length * 3)).take (i * 3) = cs.take (i * 3) := by rw [List.take_take, Nat.min_eq_left (Nat.mul_le_mul_right _ hi)]
  have e2 : (cs.take (es.length * 3)).drop (i * 3) = (cs.drop (i * 3)).take ((es.length - i) * 3) := by rw [List.drop_take, Nat.sub_mul]
  rw [e1] at h1
  rw [e2] at h2
  unfold insCells
  rw [List.append_assoc]
  exact h1.app (Cells.cons (x := e) rfl rfl h2)

theorem shape_of {w : World} {B j : Nat} {cv : Value} (h : w.cell? ⟨B, j, none⟩ = some cv) : ∃ t k, w.shape? B = some (t, k) ∧ j < k := by
  unfold World.cell? at h
  unfold World.shape?
  split at h
  · rename_i c e fr he
    simp only [Option.isSome_none, Bool.false_eq_true, if_false] at h
    simp only at he
    rw [he]
    exact ⟨e, c.size, rfl, (Array.getElem?_eq_some_iff.1 h).1⟩
  · cases h

theorem entry_fit : ∃ q, Try.prog.info? 86 = some q ∧ q.size = 3 := by
  obtain ⟨q, z, hq, q1, _⟩ := (fit _ _ T86).info
  exact ⟨q, hq, q1⟩
theorem ents_und : Try.prog.underlying 66 = some (.slice 86) := (fit _ _ T66).kind

/-- the road with room -/
theorem insert_shift {μ : Mu} {H : Heap} {w : World} (s : Sim μ H w) {b b2 : Nat} {cs ds : List V} {n i c cap2 : Nat} {t2 : Bool} {cu : Value} {x : Loc} (hx : μ b = some x) (hb : H[b]? = some (.row cs true)) (hcs : n * 3 ≤ cs.length) (hi : i < n) (hn : n ≤ 64) (hc : n + 1 ≤ c) (hxn : c * 3 ≤ x.n)
    (hu : VR μ (.slc b2 0 1 cap2 t2 3) cu) (hb2 : H[b2]? = some (.row ds true)) (hds : 3 ≤ ds.length) (hcap2 : 1 ≤ cap2) (hne : b ≠ b2) :
    Calls Try.prog 73 #[.slice (some ⟨x.B, x.o, none⟩) n c, .int .i64 i, cu] w fun e w' => ∃ cv μ', e = .returned cv ∧ VR μ' (.slc H.length 0 (n + 1) (n + 1) false 3) cv ∧ Sim μ' (H.set b .dead ++ [Blk.row (insCells cs (ds.take 3) i n) true]) w' ∧ Tr μ H w μ' (H.set b .dead ++ [Blk.row (insCells cs (ds.take 3) i n) true]) w' := by
  obtain ⟨q, hq, hq3⟩ := entry_fit
  have hu0 := hu
  simp only [VR] at hu
  obtain ⟨a2, c2, rfl, k1, k2, k3, k45⟩ := hu
  rcases k45 with ⟨_, q2⟩ | ⟨x2, oo, hx2, rfl, k4, k5⟩
  · omega
  obtain rfl := k5 (by omega)
  obtain ⟨e1, e2⟩ := s.ext b x cs true hx hb
  obtain ⟨f1, f2⟩ := s.ext b2 x2 ds true hx2 hb2
  have hB : x2.B ≠ x.B := s.sole b x _ hx hb rfl b2 x2 _ (fun e => hne e.symm) hx2 hb2 (by simp)
  -- overlaps
  obtain ⟨u2, hu2⟩ := f2 0 (by omega)
  obtain ⟨tA, kA, hsa, hka⟩ := shape_of hu2
  obtain ⟨u1, hu1⟩ := e2 0 (by omega)
  obtain ⟨tB, kB, hsb, hkb⟩ := shape_of hu1
  have hfa : w.frozen? ⟨x2.B, x2.o + 0, none⟩ = false := s.free b2 x2 ds hx2 hb2 0
  have hfe : w.frozen? ⟨x2.B, kA, none⟩ = false := by
    have := s.free b2 x2 ds hx2 hb2 (kA - x2.o)
    rwa [show x2.o + (kA - x2.o) = kA by omega] at this
  have hov : ∀ lb cb, (callFunc 104 #[.slice (some ⟨x2.B, x2.o + 0, none⟩) 1 c2, .slice (some ⟨x.B, x.o + (i + 1) * 3, none⟩) lb cb]).run Try.prog w = .ok (.value (.bool false)) w := fun lb cb => by
    rw [run_callFunc_extern Try.func104 (by kernel_rfl) (by kernel_rfl) (by kernel_rfl) (e := Extern.SlicesOverlaps.overlaps #[66, 66] #[4]) (by kernel_rfl),
      Lib.run_overlaps_apart w 66 4 86 ents_und 3 (fun w => by rw [run_size hq, hq3]) ⟨x2.B, x2.o + 0, none⟩ ⟨x.B, x.o + (i + 1) * 3, none⟩ 1 c2 lb cb hB tA tB kA kB hsa hsb (by omega) hfa hfe]
    rfl
  -- the first copy
  have hm1 : (i + 1) * 3 ≤ n * 3 := Nat.mul_le_mul_right _ hi
  have hm2 : (n - i) * 3 = n * 3 - i * 3 := Nat.sub_mul ..
  have hm3 : (n + 1) * 3 ≤ c * 3 := Nat.mul_le_mul_right _ hc
  have hm4 : (c - i) * 3 = c * 3 - i * 3 := Nat.sub_mul ..
  have hl : H.loadN b (i * 3) ((n - i) * 3) = some ((cs.drop (i * 3)).take ((n - i) * 3)) := by
    unfold Heap.loadN
    rw [hb]
    simp only
    rw [if_pos (by omega)]
  have hv1 : VR μ (.slc b (i * 3) (n + 1 - i) (n + 1 - i) false 3) (.slice (some ⟨x.B, x.o + i * 3, none⟩) (n + 1 - i) (c - i)) := by
    simp only [VR]
    exact ⟨_, c - i, rfl, Nat.le_refl _, by omega, nofun, .inr ⟨x, i * 3, hx, rfl, by omega, fun _ => rfl⟩⟩
  obtain ⟨ws, g1, g2, g3⟩ := firstCells_sound (P := Try.prog) (n := n - i) (size := 3) s.drew hv1 (by omega) (.inl hl)
  have hwl : ws.size = (n - i) * 3 := by
    have := g2.length
    simp only [Array.length_toList, List.length_take, List.length_drop] at this
    omega
  have hws1 : ∀ v ∈ ws.toList, v.oneCell' = true := fun v hv => by
    obtain ⟨j, hj⟩ := List.mem_iff_getElem?.1 hv
    have hjl := (List.getElem?_eq_some_iff.1 hj).1
    obtain ⟨y, hy⟩ : ∃ y, ((cs.drop (i * 3)).take ((n - i) * 3))[j]? = some y := ⟨_, List.getElem?_eq_getElem (by have := g2.length; omega)⟩
    obtain ⟨u, hu', hr'⟩ := g2.get hy
    rw [hj] at hu'
    cases hu'
    exact one' hr' (g3 _ (List.mem_of_getElem? hy))
  obtain ⟨w1, r1, r2, r3, r4, r5, r6, r7, r8, r9, r10⟩ := run_storeCells_ext Try.prog x.B ws.toList (x.o + (i + 1) * 3) 0 w.drew hws1 (fun j _ hj => by
    have hj' : j < (n - i) * 3 := by rw [← hwl]; simpa using hj
    rw [show x.o + (i + 1) * 3 + j = x.o + ((i + 1) * 3 + j) by omega]
    exact ⟨e2 _ (by omega), s.free b x cs hx hb _⟩)
  have hcp1 : ∀ ty, (Builtin.copy_ #[66, 66] ty #[.slice (some ⟨x.B, x.o + (i + 1) * 3, none⟩) (n - i) (c - (i + 1)), .slice (some ⟨x.B, x.o + i * 3, none⟩) (n + 1 - i) (c - i)]).run Try.prog w.drew = .ok (.int .i64 (n - i : Nat)) w1 := fun ty => by
    have hlenOf : (Builtin.lenOf (.slice (some ⟨x.B, x.o + i * 3, none⟩) (n + 1 - i) (c - i))).run Try.prog w.drew = .ok (n + 1 - i) w.drew := rfl
    have hmin : Nat.min (n + 1 - i) (n - i) = n - i := Nat.min_eq_right (by omega)
    unfold Builtin.copy_
    simp only [List.getElem?_toArray, List.getElem?_cons_zero, List.getElem?_cons_succ, run_und ents_und, Sem.run_bind, Result.andThen_ok, hlenOf, Sem.run_pure, run_size hq, hq3, hmin]
    rw [g1 w.drew rfl]
    simp only [Result.andThen_ok, r1, Sem.run_bind, Sem.run_pure]
    rfl
  -- behind it
  obtain ⟨sk, tk⟩ := sim_kill s hb
  obtain ⟨A1, hA1⟩ : ∃ A1, cs.take ((i + 1) * 3) ++ (cs.drop (i * 3)).take ((n - i) * 3) = A1 := ⟨_, rfl⟩
  have hA1l : A1.length = (n + 1) * 3 := by rw [← hA1, List.length_append, List.length_take, List.length_take, List.length_drop]; omega
  have hK : (H.set b Blk.dead).length = H.length := by simp
  have S1 : Sim (μ.put H.length ⟨x.B, x.o + 0, x.n - 0⟩) (H.set b .dead ++ [Blk.row A1 true]) w1 := by
    rw [← hK]
    refine sim_alias sk.drew (s.lt b x hx).2 ?_ r6 r7 (Nat.zero_le _) (by omega) (fun j hj => r5 _ (e2 j hj)) (fun j => by rw [r4]; exact s.free b x cs hx hb j) ?_
    · intro b' x' k' hx' hk hd
      rcases get_set hk with ⟨_, rfl⟩ | ⟨hne', hk'⟩
      · exact absurd rfl hd
      · exact s.sole b x _ hx hb rfl b' x' k' hne' hx' hk' hd
    · intro j v hj
      rw [← hA1] at hj
      by_cases hjl : j < (i + 1) * 3
      · rw [List.getElem?_append_left (by rw [List.length_take]; omega), List.getElem?_take, if_pos hjl] at hj
        obtain ⟨p1, cv, p2, p3⟩ := s.row b x cs true hx hb j v hj
        refine ⟨p1, cv, ?_, p3⟩
        rw [Nat.add_zero, r3 _ (.inl (by omega))]
        exact p2
      · rw [List.getElem?_append_right (by rw [List.length_take]; omega), List.length_take, Nat.min_eq_left (by omega)] at hj
        obtain ⟨u, hu', hr'⟩ := g2.get hj
        refine ⟨g3 v (List.mem_of_getElem? hj), u, ?_, hr'⟩
        have := r2 _ _ hu'
        rw [show x.o + (i + 1) * 3 + (0 + (j - (i + 1) * 3)) = x.o + 0 + j by omega] at this
        exact this
  have hlb : b < H.length := (List.getElem?_eq_some_iff.1 hb).1
  have T1 : Tr μ H w (μ.put H.length ⟨x.B, x.o + 0, x.n - 0⟩) (H.set b .dead ++ [Blk.row A1 true]) w1 := by
    refine ⟨Mu.le_put _ s.none_len, fun b' x' hx' hno => ?_, fun b' k hk => ?_, by rw [r7]; exact Nat.le_refl _, fun B hB' hno => ?_, by rw [r8]; rfl, by rw [r9]; rfl, by rw [r10]; rfl⟩
    · by_cases hb' : b' = H.length
      · subst hb'
        rw [Mu.put_same] at hx'
        obtain rfl := Option.some.inj hx'
        refine ⟨Nat.le_refl _, .inr ⟨b, x, _, hx, rfl, hb, rfl, ?_⟩⟩
        rw [List.getElem?_append_left (by simp [hlb])]
        exact set_get _ hb
      · rw [Mu.put_ne _ hb'] at hx'
        rw [hx'] at hno; cases hno
    · obtain ⟨k', hk', hle⟩ := stay_set hb (k := .dead) (by simp [Blk.Le]) b' k hk
      have hlt : b' < H.length := (List.getElem?_eq_some_iff.1 hk).1
      exact ⟨k', by rw [List.getElem?_append_left (by simp [hlt])]; exact hk', hle⟩
    · rw [r6 B (fun e => hno b x _ hx hb rfl e.symm)]; rfl
  -- the second copy
  have hmu1 : (μ.put H.length ⟨x.B, x.o + 0, x.n - 0⟩) H.length = some ⟨x.B, x.o + 0, x.n - 0⟩ := Mu.put_same _ _ _
  have hd2 : VR (μ.put H.length ⟨x.B, x.o + 0, x.n - 0⟩) (.slc H.length (i * 3) (n + 1 - i) (n + 1 - i) false 3) (.slice (some ⟨x.B, x.o + i * 3, none⟩) (n + 1 - i) (c - i)) := by
    simp only [VR]
    exact ⟨_, c - i, rfl, Nat.le_refl _, by omega, nofun, .inr ⟨_, i * 3, hmu1, rfl, by simp only; omega, fun _ => rfl⟩⟩
  have hg2 : (H.set b .dead ++ [Blk.row A1 true])[b2]? = some (.row ds true) := by
    have hlt : b2 < H.length := (List.getElem?_eq_some_iff.1 hb2).1
    rw [List.getElem?_append_left (by simp [hlt]), List.getElem?_set_ne hne]
    exact hb2
  have hgN : (H.set b .dead ++ [Blk.row A1 true])[H.length]? = some (.row A1 true) := by
    rw [List.getElem?_append_right (by simp)]; simp
  have hl2 : Heap.loadN (H.set b .dead ++ [Blk.row A1 true]) b2 0 (1 * 3) = some (ds.take 3) := by
    unfold Heap.loadN
    rw [hg2]
    simp only
    rw [if_pos (by omega)]; rfl
  have hst2 : Heap.storeN (H.set b .dead ++ [Blk.row A1 true]) H.length (i * 3) (ds.take 3) = some ((H.set b .dead ++ [Blk.row A1 true]).set H.length (Blk.row (setL A1 (i * 3) (ds.take 3)) true)) := by
    unfold Heap.storeN
    rw [hgN]
    simp only
    rw [if_pos (by rw [List.length_take]; omega)]
  have hcv : copyV { k := .strct [], size := 3, bytes := 0, zero := [] } (.slc H.length (i * 3) (n + 1 - i) (n + 1 - i) false 3) (.slc b2 0 1 cap2 t2 3) (H.set b .dead ++ [Blk.row A1 true]) = some (.int .i64 1, (H.set b .dead ++ [Blk.row A1 true]).set H.length (Blk.row (setL A1 (i * 3) (ds.take 3)) true)) := by
    unfold copyV
    have hmin : Nat.min 1 (n + 1 - i) = 1 := Nat.min_eq_left (by omega)
    simp only [hmin]
    rw [if_neg (by decide), hl2]
    simp only
    rw [hst2]
    rfl
  obtain ⟨ie, hie, hisz⟩ : ∃ ie, T 86 = some ie ∧ ie.size = 3 := ⟨_, T86, rfl⟩
  have hcv2 : copyV ie (.slc H.length (i * 3) (n + 1 - i) (n + 1 - i) false 3) (.slc b2 0 1 cap2 t2 3) (H.set b .dead ++ [Blk.row A1 true]) = some (.int .i64 1, (H.set b .dead ++ [Blk.row A1 true]).set H.length (Blk.row (setL A1 (i * 3) (ds.take 3)) true)) := by
    rw [← hcv]
    unfold copyV
    simp only [hisz]
  have hcp2all := fun ty => copy_sound (ty := ty) (t1 := 66) (t2 := 66) fit S1 ents_und hie hd2 (hu0.mono T1.ext) hcv2
  obtain ⟨cv2, w2, μ2, h1, h2, h3, h4⟩ := hcp2all 3
  have hcp2 : ∀ ty, (Builtin.copy_ #[66, 66] ty #[.slice (some ⟨x.B, x.o + i * 3, none⟩) (n + 1 - i) (c - i), .slice (some ⟨x2.B, x2.o + 0, none⟩) 1 c2]).run Try.prog w1 = .ok (.int .i64 1) w2 := fun ty => by
    have : cv2 = .int .i64 1 := by simpa only [VR] using h2
    rw [← this]
    exact h1
  have hfin : (H.set b .dead ++ [Blk.row A1 true]).set H.length (Blk.row (setL A1 (i * 3) (ds.take 3)) true) = H.set b .dead ++ [Blk.row (insCells cs (ds.take 3) i n) true] := by
    have hins : setL A1 (i * 3) (ds.take 3) = insCells cs (ds.take 3) i n := by
      have hd3 : (ds.take 3).length = 3 := by rw [List.length_take]; omega
      rw [setL_tail (by rw [hd3]; omega), ← hA1, hd3]
      unfold insCells
      rw [List.take_append_of_le_length (by rw [List.length_take]; omega), List.take_take, Nat.min_eq_left (by omega)]
      rw [show i * 3 + 3 = (cs.take ((i + 1) * 3)).length by rw [List.length_take]; omega, List.drop_left]
    rw [hins]
    rw [show H.length = (H.set b Blk.dead).length from hK.symm]
    exact List.set_append_right _ _ (Nat.le_refl _) |>.trans (by rw [Nat.sub_self]; rfl)
  rw [hfin] at h3 h4
  refine (insert_walk x.B x.o n c i x2.B (x2.o + 0) c2 w w1 w2 hi hn hc hov hcp1 hcp2).mono ?_
  rintro e w' ⟨rfl, rfl⟩
  refine ⟨_, μ2, rfl, ?_, h3, T1.trans h4 (fun b x h => (s.lt b x h).1)⟩
  simp only [VR]
  exact ⟨_, c, rfl, Nat.le_refl _, by omega, nofun, .inr ⟨_, 0, h4.ext _ _ hmu1, rfl, by simp only; omega, fun _ => rfl⟩⟩
end Go.Proofs.Ytekifjeckbndiaa.VM

/- slices.Insert of one entry: the road without room; the contract. -/
namespace Go.Proofs.Ytekifjeckbndiaa.VM
open Go
set_option linter.unusedVariables false
set_option linter.unusedSimpArgs false
attribute [local irreducible] wq wqL wqD wqE wqO Th Bk EndR
set_option maxHeartbeats 8000000

theorem s_copy {ρ : Rho} {h h' : Heap} {a b v : V} {xs : Array Operand} {t1 t2 e e2 : Nat} {i i2 ie : TI} (hx : evs ρ.ev xs.toList = some [a, b]) (hT : T t1 = some i) (hk : i.k = .slice e) (hE : T e = some ie) (hT2 : T t2 = some i2) (hk2 : i2.k = .slice e2) (hc : copyV ie a b h = some (v, h')) : Does T ρ h (.call { callee := .builtin .copy, args := xs, argTypes := #[t1, t2] }) v h' := by
  obtain ⟨k, size, bytes, zero, cmp⟩ := i
  obtain ⟨k', size', bytes', zero', cmp'⟩ := i2
  simp only at hk hk2
  subst hk; subst hk2
  refine does_mem rfl ?_ ?_
  · simp only [pureOp, hx]; rfl
  · simp only [memOp, hx, hT, hT2, hE]
    exact hc
theorem zero_ent : ∃ ie, T 86 = some ie ∧ ie.size = 3 ∧ ie.zero.length = 3 ∧ ie.bytes = 32 := ⟨_, T86, rfl, rfl, rfl⟩

theorem insert_full (H : Heap) (b b2 n i cap2 : Nat) (t2 : Bool) (cs ds : List V) (hb : H[b]? = some (.row cs true)) (hcs : n * 3 ≤ cs.length) (hi : i < n) (hn : n ≤ 64) (hb2 : H[b2]? = some (.row ds true)) (hds : 3 ≤ ds.length) :
    Call Try.prog 73 [.slc b 0 n n true 3, .int .i64 (i : Int), .slc b2 0 1 cap2 t2 3] H (.slc H.length 0 (n + 1) (n + 1) false 3) (H ++ [Blk.row (insCells cs (ds.take 3) i n) true]) := by
  suffices hgoal : ∃ w H', (w = .slc H.length 0 (n + 1) (n + 1) false 3 ∧ H' = H ++ [Blk.row (insCells cs (ds.take 3) i n) true]) ∧ Call Try.prog 73 [.slc b 0 n n true 3, .int .i64 (i : Int), .slc b2 0 1 cap2 t2 3] H w H' by
    obtain ⟨w, H', ⟨rfl, rfl⟩, h⟩ := hgoal
    exact h
  refine call_wq fit mixed Try.func73 rfl rfl rfl (by kernel_rfl) ?_
  obtain ⟨ie, hie, hsz, hzl, hby⟩ := zero_ent
  have hm1 : (i + 1) * 3 ≤ n * 3 := Nat.mul_le_mul_right _ hi
  have hm2 : (n - i) * 3 = n * 3 - i * 3 := Nat.sub_mul ..
  have c10 : (((1 : Nat) : Int) == 0) = false := by decide
  have wn1' : IntKind.i64.wrap ((n : Int) + ((1 : Nat) : Int)) = ((n + 1 : Nat) : Int) := by rw [wrap_i64 (by omega) (by omega)]; omega
  have wi1' : IntKind.i64.wrap ((i : Int) + ((1 : Nat) : Int)) = ((i + 1 : Nat) : Int) := by rw [wrap_i64 (by omega) (by omega)]; omega
  have hzn : ((n : Int) == (i : Int)) = false := by simp; omega
  have hzi : ((i : Int) == (n : Int)) = false := by simp; omega
  have wn1 : IntKind.i64.wrap ((n : Int) + 1) = ((n + 1 : Nat) : Int) := by rw [wrap_i64 (by omega) (by omega)]; omega
  have wi1 : IntKind.i64.wrap ((i : Int) + 1) = ((i + 1 : Nat) : Int) := by rw [wrap_i64 (by omega) (by omega)]; omega
  have wd : IntKind.i64.wrap (((n + 1 : Nat) : Int) - (i : Int)) = ((n + 1 - i : Nat) : Int) := by rw [wrap_i64 (by omega) (by omega)]; omega
  have hgt : decide (((n + 1 : Nat) : Int) > (n : Int)) = true := decide_eq_true (by omega)
  have s1 : sliceV 3 (.slc b 0 n n true 3) (some (.int .i64 (i : Int))) none none = some (.slc b (i * 3) (n - i) (n - i) true 3) := by
    simp only [sliceV, boundV, Option.isSome_none, Bool.false_and, Bool.false_eq_true, if_false, ne_eq, not_true_eq_false]
    rw [if_pos (by omega)]
    simp
  have s2 : sliceV 3 (.slc b 0 n n true 3) none (some (.int .i64 (i : Int))) none = some (.slc b 0 i n true 3) := by
    simp only [sliceV, boundV, Option.isSome_none, Bool.false_and, Bool.false_eq_true, if_false, ne_eq, not_true_eq_false]
    rw [if_pos (by omega)]
    simp
  obtain ⟨Z, hZ⟩ : ∃ Z, zeros ie.zero (n + 1 - i) = Z := ⟨_, rfl⟩
  have hZl : Z.length = (n + 1 - i) * 3 := by rw [← hZ, zeros_length, hzl]
  have hm3 : (n + 1 - i) * 3 = (n + 1) * 3 - i * 3 := Nat.sub_mul ..
  have hnews : newsOf T ie 3 (.int .i64 ((n + 1 - i : Nat) : Int)) H = some (n + 1 - i, Z) := by
    unfold newsOf
    simp only [T3]
    rw [if_pos ⟨by omega, by rw [hby]; omega, by simp only [IntKind.max, IntKind.signed, IntKind.bits]; simp; omega⟩]
    rw [Int.toNat_natCast, hZ]
  obtain ⟨A0, hA0⟩ : ∃ A0, cs.take (i * 3) ++ Z = A0 := ⟨_, rfl⟩
  have hA0l : A0.length = (n + 1) * 3 := by rw [← hA0, List.length_append, List.length_take, hZl]; omega
  have hload : H.loadN b 0 (i * 3) = some (cs.take (i * 3)) := by
    unfold Heap.loadN
    rw [hb]
    simp only
    rw [if_pos (by omega)]; rfl
  have happ : appendV ie (.slc b 0 i n true 3) (n + 1 - i) Z H = some (.slc H.length 0 (n + 1) (n + 1) false 3, H ++ [Blk.row A0 true]) := by
    unfold appendV
    rw [if_neg (by rw [hZl, hsz]; simp)]
    simp only
    rw [if_neg (by rw [hsz]; simp), if_neg (by omega), if_pos ⟨by rw [hby]; omega, by omega⟩, hsz, hb, hload]
    simp only [if_true, hA0]
    rw [show i + (n + 1 - i) = n + 1 by omega]
  obtain ⟨H1, hH1⟩ : ∃ H1, H ++ [Blk.row A0 true] = H1 := ⟨_, rfl⟩
  rw [hH1] at happ
  have g1 : H1[H.length]? = some (.row A0 true) := by rw [← hH1]; simp
  have hlt1 : H.length < H1.length := (List.getElem?_eq_some_iff.1 g1).1
  have hlb : b < H.length := (List.getElem?_eq_some_iff.1 hb).1
  have hlb2 : b2 < H.length := (List.getElem?_eq_some_iff.1 hb2).1
  have gb1 : H1[b]? = some (.row cs true) := by rw [← hH1, List.getElem?_append_left hlb]; exact hb
  have gb2 : H1[b2]? = some (.row ds true) := by rw [← hH1, List.getElem?_append_left hlb2]; exact hb2
  have s3 : sliceV 3 (.slc H.length 0 (n + 1) (n + 1) false 3) (some (.int .i64 (i : Int))) none none = some (.slc H.length (i * 3) (n + 1 - i) (n + 1 - i) false 3) := by
    simp only [sliceV, boundV, Option.isSome_none, Bool.false_and, Bool.false_eq_true, if_false, ne_eq, not_true_eq_false]
    rw [if_pos (by omega)]
    simp
  have s4 : sliceV 3 (.slc H.length 0 (n + 1) (n + 1) false 3) (some (.int .i64 ((i + 1 : Nat) : Int))) none none = some (.slc H.length ((i + 1) * 3) (n - i) (n - i) false 3) := by
    simp only [sliceV, boundV, Option.isSome_none, Bool.false_and, Bool.false_eq_true, if_false, ne_eq, not_true_eq_false]
    rw [if_pos (by omega)]
    simp [Nat.succ_sub_succ]
  obtain ⟨A1, hA1⟩ : ∃ A1, setL A0 (i * 3) (ds.take 3) = A1 := ⟨_, rfl⟩
  have hA1l : A1.length = (n + 1) * 3 := by rw [← hA1, setL_length]; exact hA0l
  have hd3 : (ds.take 3).length = 3 := by rw [List.length_take]; omega
  have k1 : copyV ie (.slc H.length (i * 3) (n + 1 - i) (n + 1 - i) false 3) (.slc b2 0 1 cap2 t2 3) H1 = some (.int .i64 1, H1.set H.length (.row A1 true)) := by
    unfold copyV
    have hmin : Nat.min 1 (n + 1 - i) = 1 := Nat.min_eq_left (by omega)
    have hl : H1.loadN b2 0 3 = some (ds.take 3) := by
      unfold Heap.loadN
      rw [gb2]
      simp only
      rw [if_pos (by omega)]; rfl
    have hst : H1.storeN H.length (i * 3) (ds.take 3) = some (H1.set H.length (.row A1 true)) := by
      unfold Heap.storeN
      rw [g1]
      simp only
      rw [if_pos (by rw [hd3]; omega), hA1]
    simp only [hmin, hsz, Nat.one_mul]
    rw [if_neg (by decide), hl]
    simp only
    rw [hst]
    rfl
  obtain ⟨H2, hH2⟩ : ∃ H2, H1.set H.length (.row A1 true) = H2 := ⟨_, rfl⟩
  rw [hH2] at k1
  have g2 : H2[H.length]? = some (.row A1 true) := by rw [← hH2, List.getElem?_set_self hlt1]
  have hlt2 : H.length < H2.length := by rw [← hH2, List.length_set]; exact hlt1
  have gc2 : H2[b]? = some (.row cs true) := by rw [← hH2, List.getElem?_set_ne (by omega)]; exact gb1
  obtain ⟨X, hX⟩ : ∃ X, (cs.drop (i * 3)).take ((n - i) * 3) = X := ⟨_, rfl⟩
  have hXl : X.length = (n - i) * 3 := by rw [← hX, List.length_take, List.length_drop]; omega
  have hfin : setL A1 ((i + 1) * 3) X = insCells cs (ds.take 3) i n := by
    rw [← hA1, ← hA0, setL_tail (cs := cs.take (i * 3) ++ Z) (by rw [hd3, hA0, hA0l]; omega)]
    have e1 : (cs.take (i * 3) ++ Z).take (i * 3) = cs.take (i * 3) := by
      rw [List.take_append_of_le_length (by rw [List.length_take]; omega), List.take_take, Nat.min_self]
    rw [e1, hd3]
    have hl1 : (cs.take (i * 3) ++ ds.take 3).length = (i + 1) * 3 := by rw [List.length_append, List.length_take, hd3]; omega
    rw [setL_tail (by rw [List.length_append, hl1, List.length_drop, hA0, hA0l, hXl]; omega)]
    have e2 : (cs.take (i * 3) ++ ds.take 3 ++ (cs.take (i * 3) ++ Z).drop (i * 3 + 3)).take ((i + 1) * 3) = cs.take (i * 3) ++ ds.take 3 := by
      rw [List.take_append_of_le_length (by rw [hl1]; exact Nat.le_refl _), List.take_of_length_le (by rw [hl1]; exact Nat.le_refl _)]
    have e3 : (cs.take (i * 3) ++ ds.take 3 ++ (cs.take (i * 3) ++ Z).drop (i * 3 + 3)).drop ((i + 1) * 3 + X.length) = [] := by
      apply List.drop_eq_nil_of_le
      rw [List.length_append, hl1, List.length_drop, hA0, hA0l, hXl]; omega
    rw [e2, e3, List.append_nil, ← hX]
    rfl
  have k2 : copyV ie (.slc H.length ((i + 1) * 3) (n - i) (n - i) false 3) (.slc b (i * 3) (n - i) (n - i) true 3) H2 = some (.int .i64 ((n - i : Nat) : Int), H2.set H.length (.row (insCells cs (ds.take 3) i n) true)) := by
    unfold copyV
    have hmin : Nat.min (n - i) (n - i) = n - i := Nat.min_self _
    have hl : Heap.loadN H2 b (i * 3) ((n - i) * 3) = some X := by
      unfold Heap.loadN
      rw [gc2]
      simp only
      rw [if_pos (by omega), hX]
    have hst : Heap.storeN H2 H.length ((i + 1) * 3) X = some (H2.set H.length (.row (insCells cs (ds.take 3) i n) true)) := by
      unfold Heap.storeN
      rw [g2]
      simp only
      rw [if_pos (by rw [hXl]; omega), hfin]
    simp only [hmin, hsz]
    rw [if_neg (by omega), hl]
    simp only
    rw [hst]
  have hend : H2.set H.length (.row (insCells cs (ds.take 3) i n) true) = H ++ [Blk.row (insCells cs (ds.take 3) i n) true] := by
    rw [← hH2, List.set_set, ← hH1]
    exact List.set_append_right _ _ (Nat.le_refl _) |>.trans (by rw [Nat.sub_self]; rfl)
  rw [hend] at k2
  clear hend hfin hX hXl g2 hlt2 gc2 hH2 hA1 hA1l hd3 g1 hlt1 gb1 gb2 hH1 hA0 hA0l hload hZ hZl hm1 hm2 hm3 hb hb2 hlb hlb2 hcs hds hi hn hzl hby
  refine goM ?_
  refine l_step (s_append eLk T66 rfl hie hnews happ) ?_
  refine goM ?_
  refine l_step (s_copy eLk T66 rfl hie T66 rfl k1) ?_
  refine goM ?_
  refine d_step (s_copy eLk T66 rfl hie T66 rfl k2) ?_
  refine goM ?_
  refine end_ret (by simp only [resRf, resRs, resR]; first | done | rfl) ⟨?_, rfl⟩
  simp [put_app, put_none]

theorem insert_call (H : Heap) (b b2 n i cap cap2 : Nat) (t t2 : Bool) (cs ds : List V) (hb : H[b]? = some (.row cs true)) (hcs : n * 3 ≤ cs.length) (hi : i < n) (hn : n ≤ 64) (hcap : n ≤ cap) (hb2 : H[b2]? = some (.row ds true)) (hds : 3 ≤ ds.length) (hcap2 : 1 ≤ cap2) (hne : b ≠ b2) :
    Call Try.prog 73 [.slc b 0 n cap t 3, .int .i64 (i : Int), .slc b2 0 1 cap2 t2 3] H (.slc H.length 0 (n + 1) (n + 1) false 3) (H.set b .dead ++ [Blk.row (insCells cs (ds.take 3) i n) true]) := by
  have hfull := insert_full H b b2 n i cap2 t2 cs ds hb hcs hi hn hb2 hds
  refine ⟨hfull.1, fun μ w cargs s hv => ?_⟩
  have hv0 := hv
  simp only [VRs] at hv
  obtain ⟨cv, _, he, hcv, ci, _, rfl, hci, cu, _, rfl, hcu, rfl⟩ := hv
  have hcv0 := hcv
  simp only [VR] at hcv hci
  obtain ⟨a, c, rfl, q1, q2, q3, q45⟩ := hcv
  rcases q45 with ⟨_, q4⟩ | ⟨x, o, hx, rfl, q4, q5⟩
  · omega
  obtain rfl := q5 (by omega)
  have hargs : cargs = #[.slice (some ⟨x.B, x.o + 0, none⟩) n c, ci, cu] := arr_of_list he
  subst hci
  by_cases hcn : c = n
  · subst hcn
    have hv2 : VRs μ [.slc b 0 c c true 3, .int .i64 (i : Int), .slc b2 0 1 cap2 t2 3] cargs.toList := by
      rw [he]
      simp only [VRs]
      refine ⟨_, _, rfl, ?_, _, _, rfl, VR.mk_int _ _, _, _, rfl, hcu, rfl⟩
      simp only [VR]
      exact ⟨_, c, rfl, Nat.le_refl _, Nat.le_refl _, fun _ => rfl, .inr ⟨x, 0, hx, rfl, q4, fun _ => rfl⟩⟩
    refine (hfull.2 μ w cargs s hv2).mono ?_
    rintro e w' ⟨cv, μ', rfl, h1, h2, h3⟩
    have hlb : b < H.length := (List.getElem?_eq_some_iff.1 hb).1
    have hb' : (H ++ [Blk.row (insCells cs (ds.take 3) i c) true])[b]? = some (.row cs true) := by rw [List.getElem?_append_left hlb]; exact hb
    obtain ⟨k1, k2⟩ := sim_kill h2 hb'
    have hset : (H ++ [Blk.row (insCells cs (ds.take 3) i c) true]).set b Blk.dead = H.set b .dead ++ [Blk.row (insCells cs (ds.take 3) i c) true] := List.set_append_left _ _ hlb
    rw [hset] at k1 k2
    exact ⟨cv, μ', rfl, h1, k1, h3.trans k2 (fun b x h => (s.lt b x h).1)⟩
  · have := insert_shift s hx hb hcs hi hn (c := c) (by omega) (by omega) hcu hb2 hds hcap2 hne
    rw [hargs]
    exact this

/-- an entry behind the others -/
theorem insert_end_ (B H : Heap) (L : List Res) (f : Res → List Res) (v u : V) (es : List Ent) (e : Ent) (hM : Mem B H L) (hh : Has L (.own 3 entC v es) f) (hu : Sl 3 entC H u [e]) (hl : es.length ≤ 64) :
    ∃ w H', Call Try.prog 73 [v, .int .i64 (es.length : Int), u] H w H' ∧ Mem B H' (f (.own 3 entC w (es ++ [e]))) := by
  refine call_turn fit mixed hM Try.func73 rfl rfl rfl (by kernel_rfl) fun _ => ?_
  obtain ⟨r, hr, _⟩ := (hM.sl hh).rest (l := es.length) (Nat.le_refl _)
  have hl1 := (hM.sl hh).len T66 rfl
  have hl2 := hu.len T66 rfl
  have c10 : ((([e].length : Nat) : Int) == 0) = false := by simp
  refine goM ?_
  refine l_appM hu (xs := es) (hh := hh) (hb := by simp only [List.length_cons, List.length_nil]; omega) fun w H' hM' => ?_
  refine goM ?_
  exact end_1 (by first | exact .inl rfl | exact .inr rfl) hM'

/-- an entry at its place -/
theorem insert_ (B H : Heap) (L : List Res) (f : Res → List Res) (v u : V) (es : List Ent) (e : Ent) (i : Nat) (hM : Mem B H (.own 3 entC u [e] :: L)) (hh : Has L (.own 3 entC v es) f) (hi : i ≤ es.length) (hl : es.length ≤ 64) :
    ∃ w H', Call Try.prog 73 [v, .int .i64 (i : Int), u] H w H' ∧ Mem B H' (.own 3 entC u [e] :: f (.own 3 entC w (es.take i ++ e :: es.drop i))) := by
  have hh' := Has.there (s := Res.own 3 entC u [e]) hh
  rcases Nat.lt_or_ge i es.length with hlt | hge
  · have hv := hM.get hh'
    have hu := hM.get .here
    rcases hv with ⟨_, rfl⟩ | ⟨b, hv⟩
    · simp at hlt
    rcases hu with ⟨_, h⟩ | ⟨b2, hu⟩
    · cases h
    have hbv := hv.blk
    have hbu := hu.blk
    have hne : b ≠ b2 := fun e0 => by
      subst e0
      have hmem : Res.own 3 entC v es ∈ L := by
        obtain ⟨L1, L2, rfl, _⟩ := hh.parts
        simp
      exact (List.pairwise_cons.1 hM.sep).1 _ hmem b hbu hbv
    obtain ⟨cap, t, cs, rfl, h1, h2, h3, h4⟩ := hv
    obtain ⟨cap2, t2, ds, rfl, g1, g2, g3, g4⟩ := hu
    have hlb : b < H.length := (List.getElem?_eq_some_iff.1 h2).1
    have hd : ds.take 3 = entV e := by
      have := g4.cell (k := 0) (x := e) rfl
      simpa [entC] using this
    have hds : 3 ≤ ds.length := by have := g4.1; simpa using this
    have hc := insert_call H b b2 es.length i cap cap2 t t2 cs ds h2 (by have := h4.1; omega) hlt hl h1 g2 hds g1 hne
    rw [hd] at hc
    refine ⟨_, _, hc, ?_⟩
    have hcells := ins_cells (e := e) h4 hi
    have hnl : (es.take i ++ e :: es.drop i).length = es.length + 1 := by simp; omega
    refine hM.turn hh' (by simp) (fun c hc hno => ?_) (.inr ⟨H.length, es.length + 1, false, _, by rw [hnl], by rw [hnl]; exact Nat.le_refl _, by rw [List.getElem?_append_right (by simp)]; simp; rfl, by rw [hcells.1, hnl], ?_⟩) (fun c hc => .inr ?_)
    · rw [List.getElem?_append_left (by simpa using hc), List.getElem?_set_ne (fun e => hno (by subst e; exact hbv))]
    · refine ⟨by rw [hcells.1]; exact Nat.le_refl _, ?_⟩
      rw [List.take_of_length_le (by rw [hcells.1]; exact Nat.le_refl _)]
      exact hcells
    · cases hc; exact Nat.le_refl _
  · obtain rfl : i = es.length := by omega
    rw [List.take_of_length_le (Nat.le_refl _), List.drop_eq_nil_of_le (Nat.le_refl _)]
    exact insert_end_ B H _ _ v u es e hM hh' (hM.sl .here) hl
end Go.Proofs.Ytekifjeckbndiaa.VM

/- Layer 15: the program's Put, Drop, Get. -/
namespace Go.Proofs.Ytekifjeckbndiaa.VM
open Go
set_option linter.unusedVariables false
set_option linter.unusedSimpArgs false
attribute [local irreducible] wq wqL wqD wqE wqO Th Bk EndR
set_option maxHeartbeats 8000000

theorem cloneEnt_ (H : Heap) (v : V) (es : List Ent) (hx : Sl 3 entC H v es) (hl : es.length ≤ 64) : ∃ w H', Call Try.prog 71 [v] H w H' ∧ Mem H H' [.own 3 entC w es] := by
  refine call_mem fit mixed Try.func71 rfl rfl rfl (by kernel_rfl) fun hM => ?_
  rcases hx with ⟨rfl, rfl⟩ | ⟨b, off, cap, t, cs, wr, rfl, h1, h2, h3, h4⟩
  · refine goM ?_
    exact end_1 (by first | exact .inl rfl | exact .inr rfl) (hM.nil 3 entC)
  · have hx : Sl 3 entC H (.slc b off es.length cap t 3) es := .inr ⟨b, off, cap, t, cs, wr, rfl, h1, h2, h3, h4⟩
    clear h1 h2 h3 h4
    refine goM ?_
    refine l_sliceM entC [] [] T66 rfl T86 rfl (cells_ents []) (by decide) fun e1 H3 hM => ?_
    refine goM ?_
    refine l_appM (hx.mono hM.pre) (xs := []) (hb := by simp only [List.length_nil]; omega) fun a H4 hM => ?_
    refine goM ?_
    exact end_1 (by first | exact .inl rfl | exact .inr rfl) hM

theorem bump_at {es : List Ent} {k : Nat} {e : Ent} (d : Int) (h : es[k]? = some e) : bump es k d = es.set k ⟨e.id, e.tx, e.n + d⟩ := by unfold bump; rw [h]
theorem Mem.bump {B H : Heap} {L : List Res} {f : Res → List Res} {v : V} {es : List Ent} {k : Nat} {e : Ent} (hM : Mem B H L) (hh : Has L (.own 3 entC v es) f) (he : es[k]? = some e) (d : Int) {b o : Nat} (hi : idxV T 66 v (k : Int) = some (.ptr b o)) : ∃ H', storeV T 3 H b (o + 2) (.int .i64 (e.n + d)) = some H' ∧ Mem B H' (f (.own 3 entC v (VM.bump es k d))) := by
  obtain ⟨b', hix, hput⟩ := hM.elemAt hh T66 rfl T86 rfl he 2 T3 (by decide)
  rw [hi] at hix
  cases hix
  rw [bump_at d he]
  exact hput (.int .i64 (e.n + d)) ⟨e.id, e.tx, e.n + d⟩ rfl rfl fun cs hl hR => by rw [hR]; rfl

theorem freeFrom_step {es : List Ent} {k : Nat} {e : Ent} (h : es[k]? = some e) : freeFrom (es.drop k) k = if e.id = (k : Int) then freeFrom (es.drop (k + 1)) (k + 1) else k := by
  obtain ⟨hlt, rfl⟩ := List.getElem?_eq_some_iff.1 h
  rw [List.drop_eq_getElem_cons hlt]; rfl
theorem ent_n {es : List Ent} (hs : Store es) {k : Nat} {e : Ent} (h : es[k]? = some e) : 0 ≤ e.n ∧ e.n ≤ 8 := by
  have := hs.ok e (List.mem_of_getElem? h)
  unfold entOk at this
  simp only [Bool.and_eq_true, within_iff] at this
  exact this.2

theorem put15_ (H : Heap) (v : V) (es : List Ent) (s : ByteArray) (hx : Sl 3 entC H v es) (hl : es.length ≤ 2 ^ 47) :
    ∃ w H', Call Try.prog 33 [v, .str s] H w H' ∧ ∃ u, w = .tup [u, .int .i64 (putS es s).2.1, .int .i64 (putS es s).2.2] ∧ Mem H H' [.own 3 entC u (putS es s).1] := by
  refine call_mem fit mixed Try.func33 rfl rfl rfl (by kernel_rfl) fun hM => ?_
  have c1 := storeMay_ H v es hx hl
  have c2 := text_ H s
  unfold putS
  cases hm : storeMay es with
  | false =>
    rw [hm] at c1
    rw [Bool.false_and, if_pos rfl]
    clear hm c2
    refine goM ?_
    refine l_callG c1 ?_
    refine goM ?_
    exact end_3 (by first | exact .inl rfl | exact .inr rfl) ⟨_, rfl, hM.nil 3 entC⟩
  | true =>
    rw [hm] at c1
    have hs := store_of hm
    cases ht : textOk s with
    | false =>
      rw [ht] at c2
      rw [Bool.and_false, if_pos rfl]
      clear hm ht hs
      refine goM ?_
      refine l_callG c1 ?_
      refine goM ?_
      refine l_callG c2 ?_
      refine goM ?_
      exact end_3 (by first | exact .inl rfl | exact .inr rfl) ⟨_, rfl, hM.nil 3 entC⟩
    | true =>
      rw [ht] at c2
      rw [Bool.and_true, if_neg (by decide)]
      have hn64 := hs.len
      obtain ⟨u, H1, c3, m1⟩ := cloneEnt_ H v es hx hn64
      have c4 := holds_ H1 u es s (m1.sl .here) hl
      have hlen := (m1.sl .here).len T66 rfl
      obtain ⟨n, hn⟩ : ∃ n, es.length = n := ⟨_, rfl⟩
      rw [hn] at hlen hn64
      clear hm ht
      obtain ⟨k, hk⟩ : ∃ k, holdsN es s = k := ⟨_, rfl⟩
      rw [hk]
      cases he : es[k]? with
      | some e =>
        have hkl := (List.getElem?_eq_some_iff.1 he).1
        have hr : holdsR es s = (k : Int) := by unfold holdsR; rw [hk, if_pos hkl]
        rw [hr] at c4
        obtain ⟨hn0, hn8⟩ := ent_n hs he
        obtain ⟨b, o, hie, _, _, _, lo2⟩ := ent_at (m1.sl .here) he
        have dk : decide ((k : Int) ≥ 0) = true := decide_eq_true (by omega)
        have dk2 : decide ((k : Int) < 0) = false := decide_eq_false (by omega)
        have wn : IntKind.i64.wrap (e.n + 1) = e.n + 1 := wrap_i64 (by omega) (by omega)
        obtain ⟨H2, hst, m2⟩ := m1.bump .here he 1 hie
        obtain ⟨_, _, hie', _, lo0, _⟩ := ent_at (m2.sl .here) (k := k) (e := ⟨e.id, e.tx, e.n + 1⟩) (by rw [bump_at 1 he, List.getElem?_set_self hkl])
        rw [hie] at hie'
        cases hie'
        replace hM := hM.call1 m1
        by_cases h8 : e.n = 8
        · have d8 : (e.n == 8) = true := by rw [h8]; rfl
          simp only [h8, if_true]
          clear hst m1 m2 hn0 hn8 he hr hk hs wn h8 hkl
          refine goM ?_
          refine l_callG c1 ?_
          refine goM ?_
          refine l_callG c2 ?_
          refine goM ?_
          refine l_callG c3 ?_
          refine goM ?_
          refine l_callG c4 ?_
          refine goM ?_
          exact end_3 (by first | exact .inl rfl | exact .inr rfl) ⟨_, rfl, (hM.sub (L' := []) (by simp)).nil 3 entC⟩
        · have d8 : (e.n == 8) = false := by simpa using h8
          simp only [h8, if_false]
          clear m1 hn0 hn8 he hr hk hs h8 hkl hM
          refine goM ?_
          refine l_callG c1 ?_
          refine goM ?_
          refine l_callG c2 ?_
          refine goM ?_
          refine l_callG c3 ?_
          refine goM ?_
          refine l_callG c4 ?_
          refine goM ?_
          refine l_stM hst ?_
          refine goM ?_
          exact end_3 (by first | exact .inl rfl | exact .inr rfl) ⟨_, rfl, m2⟩
      | none =>
        have hkl : es.length ≤ k := List.getElem?_eq_none_iff.1 he
        have hr : holdsR es s = -1 := by unfold holdsR; rw [hk, if_neg (by omega)]
        rw [hr] at c4
        replace hM := hM.call1 m1
        have hl64 : ((n : Int) == 64) = decide (n = 64) := by
          by_cases h : n = 64
          · subst h; rfl
          · rw [decide_eq_false h]; simp; omega
        simp only
        rw [hn]
        by_cases h64 : n = 64
        · rw [decide_eq_true h64] at hl64
          rw [if_pos h64]
          clear m1 he hr hk hs hkl h64
          refine goM ?_
          refine l_callG c1 ?_
          refine goM ?_
          refine l_callG c2 ?_
          refine goM ?_
          refine l_callG c3 ?_
          refine goM ?_
          refine l_callG c4 ?_
          refine goM ?_
          exact end_3 (by first | exact .inl rfl | exact .inr rfl) ⟨_, rfl, (hM.sub (L' := []) (by simp)).nil 3 entC⟩
        · rw [decide_eq_false h64] at hl64
          rw [if_neg h64]
          clear m1 he hr hk hs hkl h64
          refine goM ?_
          refine l_callG c1 ?_
          refine goM ?_
          refine l_callG c2 ?_
          refine goM ?_
          refine l_callG c3 ?_
          refine goM ?_
          refine l_callG c4 ?_
          refine goM ?_
          obtain ⟨z, hz⟩ : ∃ z, freeN es = z := ⟨_, rfl⟩
          rw [hz]
          refine wq_loop (fun c ρ h => ∃ k : Nat, k ≤ n ∧ c = n - k ∧ h = H1 ∧ freeFrom (es.drop k) k = z ∧ ρ 1 = .str s ∧ ρ 7 = u ∧ ρ 9 = .int .i64 (k : Int)) ⟨0, Nat.zero_le _, rfl, rfl, hz, rfl, rfl, rfl⟩ ?_
          clear c1 c2 c3 c4
          rintro _ ρ h ⟨k, hk, rfl, rfl, hfr, g1, g7, g9⟩
          have finish : ∀ ρ : Rho, k = z → ρ 1 = .str s → ρ 7 = u → ρ 9 = .int .i64 (k : Int) → Mem H h [.own 3 entC u es] → ∃ d, d = (k : Int) := fun _ _ _ _ _ _ => ⟨_, rfl⟩
          by_cases hkn : k < n
          · obtain ⟨e, he⟩ : ∃ e, es[k]? = some e := ⟨es[k]'(by omega), by simp⟩
            obtain ⟨b, o, hie, _, lo0, _⟩ := ent_at (hM.sl .here) he
            have dkn : decide ((k : Int) < (n : Int)) = true := decide_eq_true (by omega)
            rw [freeFrom_step he] at hfr
            by_cases hek : e.id = (k : Int)
            · have dek : (e.id == (k : Int)) = true := by simpa using hek
              rw [if_pos hek] at hfr
              have hw := wrap_succ (n := k) (by omega)
              clear he hek
              refine goM ?_
              exact ⟨n - (k + 1), by omega, k + 1, hkn, rfl, rfl, hfr, by simp [put_app, put_none, *]⟩
            · have dek : (e.id == (k : Int)) = false := by simpa using hek
              rw [if_neg hek] at hfr
              subst hfr
              clear he hek hz
              refine goM ?_
              refine l_sliceM entC [⟨(k : Int), s, 1⟩] (entV ⟨(k : Int), s, 1⟩) T66 rfl T86 rfl (cells_ents [⟨(k : Int), s, 1⟩]) (by decide) fun e1 H2 hM => ?_
              obtain ⟨w, H3, c5, m5⟩ := insert_ H H2 _ _ u e1 es ⟨(k : Int), s, 1⟩ k hM .here (by omega) (by omega)
              refine goM ?_
              refine l_callG c5 ?_
              refine goM ?_
              exact end_3 (by first | exact .inl rfl | exact .inr rfl) ⟨_, rfl, m5.sub (by (repeat (first | exact List.Sublist.slnil | exact List.Sublist.refl _ | refine List.Sublist.cons_cons _ ?_ | refine List.Sublist.cons _ ?_)))⟩
          · obtain rfl : k = n := by omega
            have dkn : decide ((k : Int) < (k : Int)) = false := decide_eq_false (by omega)
            rw [List.drop_eq_nil_of_le (by omega)] at hfr
            replace hfr : k = z := hfr
            subst hfr
            clear hz hkn
            refine goM ?_
            refine l_sliceM entC [⟨(k : Int), s, 1⟩] (entV ⟨(k : Int), s, 1⟩) T66 rfl T86 rfl (cells_ents [⟨(k : Int), s, 1⟩]) (by decide) fun e1 H2 hM => ?_
            obtain ⟨w, H3, c5, m5⟩ := insert_ H H2 _ _ u e1 es ⟨(k : Int), s, 1⟩ k hM .here (by omega) (by omega)
            refine goM ?_
            refine l_callG c5 ?_
            refine goM ?_
            exact end_3 (by first | exact .inl rfl | exact .inr rfl) ⟨_, rfl, m5.sub (by (repeat (first | exact List.Sublist.slnil | exact List.Sublist.refl _ | refine List.Sublist.cons_cons _ ?_ | refine List.Sublist.cons _ ?_)))⟩
end Go.Proofs.Ytekifjeckbndiaa.VM

/- Layer 15: the program's Drop, Get, Sweep. -/
namespace Go.Proofs.Ytekifjeckbndiaa.VM
open Go
set_option linter.unusedVariables false
set_option linter.unusedSimpArgs false
attribute [local irreducible] wq wqL wqD wqE wqO Th Bk EndR
set_option maxHeartbeats 8000000

theorem drop15_ (H : Heap) (v : V) (es : List Ent) (id : Int) (hx : Sl 3 entC H v es) (hl : es.length ≤ 2 ^ 47) :
    ∃ w H', Call Try.prog 35 [v, .int .i64 id] H w H' ∧ ∃ u, w = .tup [u, .int .i64 (dropS es id).2] ∧ Mem H H' [.own 3 entC u (dropS es id).1] := by
  refine call_mem fit mixed Try.func35 rfl rfl rfl (by kernel_rfl) fun hM => ?_
  have c1 := storeMay_ H v es hx hl
  unfold dropS
  cases hm : storeMay es with
  | false =>
    rw [hm] at c1
    rw [if_pos rfl]
    clear hm
    refine goM ?_
    refine l_callG c1 ?_
    refine goM ?_
    exact end_2 (by first | exact .inl rfl | exact .inr rfl) ⟨_, rfl, hM.nil 3 entC⟩
  | true =>
    rw [hm] at c1
    rw [if_neg (by decide)]
    have hs := store_of hm
    have c2 := find_ H v es id hx hs
    have hn64 := hs.len
    cases hi : isN es id with
    | false =>
      rw [hi] at c2
      rw [find_none hs hi]
      clear hm hs hi
      refine goM ?_
      refine l_callG c1 ?_
      refine goM ?_
      refine l_callG c2 ?_
      refine goM ?_
      exact end_2 (by first | exact .inl rfl | exact .inr rfl) ⟨_, rfl, hM.nil 3 entC⟩
    | true =>
      obtain ⟨e, he, hid, hf⟩ := find_some hs hi
      rw [hi] at c2
      rw [hf, he]
      obtain ⟨hn0, hn8⟩ := ent_n hs he
      obtain ⟨k, hk⟩ : ∃ k, lowN es id = k := ⟨_, rfl⟩
      rw [hk] at c2 he ⊢
      obtain ⟨b, o, hie, _, _, _, lo2⟩ := ent_at hx he
      simp only
      by_cases h0 : e.n = 0
      · have d0 : (e.n == 0) = true := by rw [h0]; rfl
        rw [if_pos h0]
        clear hm hs hi hf hid hk he h0 hn0 hn8
        refine goM ?_
        refine l_callG c1 ?_
        refine goM ?_
        refine l_callG c2 ?_
        refine goM ?_
        exact end_2 (by first | exact .inl rfl | exact .inr rfl) ⟨_, rfl, hM.nil 3 entC⟩
      · have d0 : (e.n == 0) = false := by simpa using h0
        rw [if_neg h0]
        obtain ⟨u, H1, c3, m1⟩ := cloneEnt_ H v es hx hn64
        obtain ⟨b', o', hie', _, _, _, lo2'⟩ := ent_at (m1.sl .here) he
        obtain ⟨H2, hst, m2⟩ := m1.bump .here he (-1) hie'
        have wn : IntKind.i64.wrap (e.n - 1) = e.n + -1 := by rw [wrap_i64 (by omega) (by omega)]; omega
        clear hm hs hi hf hid hk he h0 hn0 hn8 m1 hM
        refine goM ?_
        refine l_callG c1 ?_
        refine goM ?_
        refine l_callG c2 ?_
        refine goM ?_
        refine l_callG c3 ?_
        refine goM ?_
        refine l_stM hst ?_
        refine goM ?_
        exact end_2 (by first | exact .inl rfl | exact .inr rfl) ⟨_, rfl, m2⟩

theorem get15_ (H : Heap) (v : V) (es : List Ent) (id : Int) (hx : Sl 3 entC H v es) (hl : es.length ≤ 2 ^ 47) :
    Call Try.prog 37 [v, .int .i64 id] H (.tup [.str (getS es id).1, .bool (getS es id).2]) H := by
  refine call_pure fit mixed Try.func37 rfl rfl rfl (by kernel_rfl) rfl fun hM => ?_
  have c1 := storeMay_ H v es hx hl
  unfold getS
  cases hm : storeMay es with
  | false =>
    rw [hm] at c1
    rw [if_pos rfl]
    clear hm
    refine goM ?_
    refine l_callG c1 ?_
    refine goM ?_
    exact end_2 (by first | exact .inl rfl | exact .inr rfl) ⟨rfl, List.prefix_refl _⟩
  | true =>
    rw [hm] at c1
    rw [if_neg (by decide)]
    have hs := store_of hm
    have c2 := find_ H v es id hx hs
    cases hi : isN es id with
    | false =>
      rw [hi] at c2
      rw [find_none hs hi]
      clear hm hs hi
      refine goM ?_
      refine l_callG c1 ?_
      refine goM ?_
      refine l_callG c2 ?_
      refine goM ?_
      exact end_2 (by first | exact .inl rfl | exact .inr rfl) ⟨rfl, List.prefix_refl _⟩
    | true =>
      obtain ⟨e, he, hid, hf⟩ := find_some hs hi
      rw [hi] at c2
      rw [hf, he]
      obtain ⟨k, hk⟩ : ∃ k, lowN es id = k := ⟨_, rfl⟩
      rw [hk] at c2 he
      obtain ⟨b, o, hie, _, _, lo1, _⟩ := ent_at hx he
      clear hm hs hi hf hid hk he
      refine goM ?_
      refine l_callG c1 ?_
      refine goM ?_
      refine l_callG c2 ?_
      refine goM ?_
      exact end_2 (by first | exact .inl rfl | exact .inr rfl) ⟨rfl, List.prefix_refl _⟩

/-- nobody holds it -/
def freeE (e : Ent) : Bool := e.n == 0
theorem sweep1_ (H : Heap) (e : Ent) : Call Try.prog 75 [.agg (entV e)] H (.bool (freeE e)) H := by
  refine call_pure fit mixed Try.func75 rfl rfl rfl (by kernel_rfl) rfl fun hM => ?_
  refine wq_seq (wq_line ?_)
  refine l_boxM T86 fun b1 H1 hM => ?_
  refine goM ?_
  exact end_1 (by first | exact .inl rfl | exact .inr rfl) ⟨rfl, hM.pre⟩

/-- what lies behind is cleared, and cut off -/
theorem Mem.clearCut {α : Type} {sz : Nat} {R : List V → α → Prop} {B H : Heap} {v : V} {xs : List α} {L : List Res} {f : Res → List Res} (h : Mem B H L) (hh : Has L (.own sz R v xs) f) {t e : Nat} {i ie : TI} (hT : T t = some i) (hk : i.k = .slice e) (hE : T e = some ie) (hs : ie.size = sz) (hz : ie.zero.length = sz) {k : Nat} (hk' : k < xs.length) :
    ∃ u u' H', sliceV sz v (some (.int .i64 (k : Int))) none none = some u ∧ (∀ (ρ : Rho) (x : Operand), ρ.ev x = some u → Does T ρ H (.call { callee := .builtin .clear, args := #[x], argTypes := #[t] }) (.tup []) H') ∧ sliceV sz v none (some (.int .i64 (k : Int))) none = some u' ∧ Mem B H' (f (.own sz R u' (xs.take k))) := by
  rcases h.get hh with ⟨rfl, rfl⟩ | ⟨b, ho⟩
  · simp at hk'
  have hob := ho.blk
  obtain ⟨cap, t', cs, rfl, g1, g2, g3, g4⟩ := ho
  have hlb : b < H.length := (List.getElem?_eq_some_iff.1 g2).1
  have hm : (xs.length - k) * sz = xs.length * sz - k * sz := Nat.sub_mul ..
  have hkm : k * sz ≤ xs.length * sz := Nat.mul_le_mul_right _ (Nat.le_of_lt hk')
  have hcl := g4.1
  have hzl : (zeros ie.zero (xs.length - k)).length = (xs.length - k) * sz := by rw [zeros_length, hz]
  refine ⟨.slc b (k * sz) (xs.length - k) (cap - k) t' sz, .slc b 0 k cap t' sz, H.set b (.row (setL cs (k * sz) (zeros ie.zero (xs.length - k))) true), ?_, fun ρ x hx => ?_, ?_, ?_⟩
  · simp only [sliceV, boundV, Option.isSome_none, Bool.false_and, Bool.false_eq_true, if_false, ne_eq, not_true_eq_false]
    rw [if_pos (by omega)]
    simp
  · obtain ⟨kk, size, bytes, zero, cmp⟩ := i
    simp only at hk
    subst hk
    have hev : evs ρ.ev (#[x] : Array Operand).toList = some [.slc b (k * sz) (xs.length - k) (cap - k) t' sz] := by simp only [evs, hx]
    refine does_mem rfl ?_ ?_
    · simp only [pureOp, hev]; rfl
    · simp only [memOp, hev, hT, hE]
      rw [if_neg (by omega)]
      unfold Heap.storeN
      rw [g2]
      simp only
      rw [if_pos (by rw [hzl]; omega)]
      rfl
  · simp only [sliceV, boundV, Option.isSome_none, Bool.false_and, Bool.false_eq_true, if_false, ne_eq, not_true_eq_false]
    rw [if_pos (by omega)]
    simp
  · have hkl : (xs.take k).length = k := by rw [List.length_take]; omega
    refine h.turn hh (by simp) (fun c hc hno => by rw [List.getElem?_set_ne (fun e => hno (by subst e; exact hob))]) (.inr ⟨b, cap, t', _, by rw [hkl], by rw [hkl]; omega, by rw [List.getElem?_set_self hlb], by rw [setL_length]; exact g3, ?_⟩) (fun c hc => .inl ?_)
    · have h1 := g4.2.take k (Nat.le_of_lt hk')
      rw [List.take_take, Nat.min_eq_left hkm] at h1
      refine ⟨by rw [hkl, setL_length]; omega, ?_⟩
      rw [hkl]
      have : (setL cs (k * sz) (zeros ie.zero (xs.length - k))).take (k * sz) = cs.take (k * sz) := by
        rw [setL_tail (by rw [hzl]; omega), List.append_assoc, List.take_append_of_le_length (by rw [List.length_take]; omega), List.take_take, Nat.min_self]
      rw [this]
      exact h1
    · cases hc; exact hob

theorem filter_step {es : List Ent} {p : Ent → Bool} {j : Nat} {e : Ent} (h : es[j]? = some e) : (es.take (j + 1)).filter p = (es.take j).filter p ++ (if p e = true then [e] else []) := by
  rw [List.take_add_one, h, List.filter_append]
  simp [List.filter_cons]

theorem delete_ (B H : Heap) (L : List Res) (f : Res → List Res) (v : V) (es : List Ent) (hM : Mem B H L) (hh : Has L (.own 3 entC v es) f) (hl : es.length ≤ 64) :
    ∃ w H', Call Try.prog 76 [v, .fn 75 []] H w H' ∧ Mem B H' (f (.own 3 entC w (es.filter fun e => !freeE e))) := by
  refine call_turn fit mixed hM Try.func76 rfl rfl rfl (by kernel_rfl) fun _ => ?_
  have c1 := indexEnt_ H v es 75 [] freeE (hM.sl hh) (by omega) (fun e _ => sweep1_ H e)
  obtain ⟨n, hn⟩ : ∃ n, es.length = n := ⟨_, rfl⟩
  obtain ⟨k0, hk0⟩ : ∃ k, es.findIdx freeE = k := ⟨_, rfl⟩
  have hkn : k0 ≤ n := by rw [← hk0, ← hn]; exact List.findIdx_le_length
  have hkeep : ∀ (j : Nat) (e : Ent), j < k0 → es[j]? = some e → freeE e = false := fun j e hj he => by
    obtain ⟨hlt, rfl⟩ := List.getElem?_eq_some_iff.1 he
    have := List.not_of_lt_findIdx (xs := es) (p := freeE) (i := j) (by omega)
    simpa using this
  have htk : ∀ k, k ≤ k0 → (es.take k).filter (fun e => !freeE e) = es.take k := fun k hk => by
    apply List.filter_eq_self.2
    intro e he
    obtain ⟨j, hj⟩ := List.mem_iff_getElem?.1 he
    rw [List.getElem?_take] at hj
    split at hj
    · rw [hkeep j e (by omega) hj]; rfl
    · cases hj
  unfold idxR at c1
  rw [hk0, hn] at c1
  by_cases hk : k0 < n
  · rw [if_pos hk] at c1
    have dk : ((k0 : Int) == -1) = false := by
      rw [beq_eq_false_iff_ne]; omega
    have hw0 := wrap_succ (n := k0) (by omega)
    obtain ⟨e0, he0⟩ : ∃ e, es[k0]? = some e := ⟨es[k0]'(by omega), by simp⟩
    have hfe0 : freeE e0 = true := by
      obtain ⟨hlt, rfl⟩ := List.getElem?_eq_some_iff.1 he0
      have := List.findIdx_getElem (xs := es) (p := freeE) (w := by omega)
      simpa [hk0] using this
    have hf0 : (es.take (k0 + 1)).filter (fun e => !freeE e) = es.take k0 := by
      rw [filter_step he0, htk k0 (Nat.le_refl _), hfe0]; simp
    refine goM ?_
    refine l_callG c1 ?_
    refine goM ?_
    refine wq_loop (fun c ρ hp => ∃ (i j : Nat) (ys : List Ent) (L' : List Res), i < j ∧ j ≤ n ∧ c = n - j ∧ ys.length = n ∧ ys.take i = (es.take j).filter (fun e => !freeE e) ∧ ys.drop j = es.drop j ∧ Mem B hp L' ∧ Has L' (.own 3 entC v ys) f ∧ ρ 0 = v ∧ ρ 1 = .fn 75 [] ∧ ρ 5 = .int .i64 (i : Int) ∧ ρ 6 = .int .i64 (j : Int)) ⟨k0, k0 + 1, es, L, Nat.lt_succ_self _, hk, rfl, hn, hf0.symm, rfl, hM, hh, rfl, rfl, rfl, rfl⟩ ?_
    clear hM hh c1 hf0 hfe0 he0 hw0 dk hk htk hkeep hk0 hkn
    rintro _ ρ hp ⟨i, j, ys, L', hij, hjn, rfl, hyl, hti, hdj, hM, hh, g0, g1, g5, g6⟩
    have hlen := (hM.sl hh).len T66 rfl
    rw [hyl] at hlen
    refine goM ?_
    refine cond_go (fun hb => ?_) (fun hb => ?_)
    · have hj' : j < n := by simpa using hb
      clear hb
      obtain ⟨e, he⟩ : ∃ e, ys[j]? = some e := ⟨ys[j]'(by omega), by simp⟩
      have hee : es[j]? = some e := by
        have h1 : (ys.drop j)[0]? = some e := by rw [List.getElem?_drop]; exact he
        rw [hdj, List.getElem?_drop] at h1
        exact h1
      have hfs := filter_step (p := fun e => !freeE e) hee
      have hdj1 : ys.drop (j + 1) = es.drop (j + 1) := by
        have : (ys.drop j).drop 1 = (es.drop j).drop 1 := by rw [hdj]
        simpa [List.drop_drop] using this
      obtain ⟨b, o, hie, hlo, _⟩ := ent_at (hM.sl hh) he
      have hw := wrap_succ (n := j) (by omega)
      have hwi := wrap_succ (n := i) (by omega)
      refine goM ?_
      refine l_newM (cs := entV ⟨0, ByteArray.empty, 0⟩) T86 rfl fun b3 H3 hM' => ?_
      refine l_putM T86 fun H4 hM' => ?_
      have c2 := sweep1_ H4 e
      cases hfe : freeE e with
      | true =>
        rw [hfe] at c2 hfs
        simp only [Bool.not_true, Bool.false_eq_true, if_false, List.append_nil] at hfs
        rw [← hfs] at hti
        clear hee hdj he hM hlo
        refine goM ?_
        refine l_callG c2 ?_
        refine goM ?_
        exact ⟨n - (j + 1), by omega, i, j + 1, ys, _, by omega, hj', rfl, hyl, hti, hdj1, hM'.drop, hh, by simp [put_app, put_none, *]⟩
      | false =>
        rw [hfe] at c2 hfs
        simp only [Bool.not_false, if_true] at hfs
        rw [← hti] at hfs
        obtain ⟨b5, hi5, hput⟩ := hM'.elem (.there hh) T66 rfl T86 rfl (k := i) (by omega)
        obtain ⟨H5, hst, hM5⟩ := hput (.agg (entV e)) e rfl rfl rfl
        have q1 : (ys.set i e).take (i + 1) = (es.take (j + 1)).filter (fun e => !freeE e) := by
          rw [hfs, List.take_add_one, List.getElem?_set_self (by omega), List.take_set_of_le (Nat.le_refl _)]; rfl
        have q2 : (ys.set i e).drop (j + 1) = es.drop (j + 1) := by
          rw [List.drop_set_of_lt (by omega)]; exact hdj1
        clear hee hdj he hM hlo hfs
        refine goM ?_
        refine l_callG c2 ?_
        refine goM ?_
        refine l_stM hst ?_
        refine goM ?_
        exact ⟨n - (j + 1), by omega, i + 1, j + 1, ys.set i e, _, by omega, hj', rfl, by simpa using hyl, q1, q2, hM5.drop, hh.again _, by simp [put_app, put_none, *]⟩
    · have hj' : j = n := by have : ¬ j < n := by simpa using hb
                             omega
      subst hj'
      clear hb
      obtain ⟨u, u', H', s1, s2, s3, hM'⟩ := hM.clearCut hh T66 rfl T86 rfl rfl (k := i) (by omega)
      rw [hti, List.take_of_length_le (by omega)] at hM'
      refine goM ?_
      refine l_step (s2 _ _ eLk) ?_
      refine goM ?_
      exact end_1 (by first | exact .inl rfl | exact .inr rfl) hM'
  · rw [if_neg hk] at c1
    have hall : es.filter (fun e => !freeE e) = es := by
      have := htk n (by omega)
      rw [List.take_of_length_le (by omega)] at this
      exact this
    replace hall : Held (es.filter (fun e => !freeE e) = es) := hall
    clear htk hkeep hk0 hkn hk
    refine goM ?_
    refine l_callG c1 ?_
    refine goM ?_
    refine end_1 (by first | exact .inl rfl | exact .inr rfl) ?_
    replace hall : es.filter (fun e => !freeE e) = es := hall
    rw [hall, hh.same]; exact hM

theorem sweep15_ (H : Heap) (v : V) (es : List Ent) (hx : Sl 3 entC H v es) (hl : es.length ≤ 2 ^ 47) :
    ∃ w H', Call Try.prog 39 [v] H w H' ∧ ∃ u, w = .tup [u, .int .i64 (sweepS es).2] ∧ Mem H H' [.own 3 entC u (sweepS es).1] := by
  refine call_mem fit mixed Try.func39 rfl rfl rfl (by kernel_rfl) fun hM => ?_
  have c1 := storeMay_ H v es hx hl
  unfold sweepS
  cases hm : storeMay es with
  | false =>
    rw [hm] at c1
    rw [if_pos rfl]
    clear hm
    refine goM ?_
    refine l_callG c1 ?_
    refine goM ?_
    exact end_2 (by first | exact .inl rfl | exact .inr rfl) ⟨_, rfl, hM.nil 3 entC⟩
  | true =>
    rw [hm] at c1
    rw [if_neg (by decide)]
    have hs := store_of hm
    obtain ⟨u, H1, c3, m1⟩ := cloneEnt_ H v es hx hs.len
    obtain ⟨w, H2, c4, m2⟩ := delete_ H H1 _ _ u es m1 .here hs.len
    have hf : (fun e : Ent => !freeE e) = fun e => decide (e.n ≠ 0) := by
      funext e
      unfold freeE
      by_cases h : e.n = 0 <;> simp [h]
    rw [hf] at m2
    clear hm hs m1 hM
    refine goM ?_
    refine l_callG c1 ?_
    refine goM ?_
    refine l_callG c3 ?_
    refine goM ?_
    refine l_callG c4 ?_
    refine goM ?_
    exact end_2 (by first | exact .inl rfl | exact .inr rfl) ⟨_, rfl, m2⟩
end Go.Proofs.Ytekifjeckbndiaa.VM

/- Layer 15: the document's StoreMay, PutStore. -/
namespace Go.Proofs.Ytekifjeckbndiaa.VM
open Go
set_option linter.unusedVariables false
set_option linter.unusedSimpArgs false
attribute [local irreducible] wq wqL wqD wqE wqO Th Bk EndR
set_option maxHeartbeats 8000000

theorem within_text (s : ByteArray) : within (s.size : Int) 1 256 = textOk s := by
  unfold textOk
  apply Bool.eq_iff_iff.2
  rw [within_iff]
  simp
  omega
theorem entOk_split (e : Ent) : entOk e = (within e.id 0 1024 && textOk e.tx && within e.n 0 8) := rfl
theorem holdsN_other {es : List Ent} {k m : Nat} {e x : Ent} (he : es[k]? = some e) (hm : m < k) (hx : es[m]? = some x) (ht : txEq x.tx e.tx = true) : okAt es k = false := by
  rw [Bool.eq_false_iff]
  intro ho
  unfold okAt at ho
  rw [he] at ho
  simp only [Bool.and_eq_true, decide_eq_true_eq] at ho
  have := holdsN_lt (s := e.tx) (k := m) (by rw [ho.2]; exact hm) hx
  rw [ht] at this; cases this

def prevOk (es : List Ent) (k : Nat) (e : Ent) : Bool := match k with
  | 0 => true
  | j + 1 => match es[j]? with
    | none => true
    | some p => decide (p.id < e.id)
theorem okAt_eq {es : List Ent} {k : Nat} {e : Ent} (h : es[k]? = some e) : okAt es k = (entOk e && prevOk es k e && decide (holdsN es e.tx = k)) := by
  unfold okAt; rw [h]; rfl

theorem refStoreMay_ (H : Heap) (v : V) (es : List Ent) (hx : Sl 3 entC H v es) (hl : es.length ≤ 2 ^ 47) : Call Try.prog 43 [v] H (.bool (storeMay es)) H := by
  refine call_pure fit mixed Try.func43 rfl rfl rfl (by kernel_rfl) rfl fun hM => ?_
  obtain ⟨n, hn⟩ : ∃ n, es.length = n := ⟨_, rfl⟩
  have hlen := hx.len T66 rfl
  rw [hn] at hlen
  refine goM ?_
  refine wq_loop (fun c ρ h => ∃ k : Nat, k ≤ n ∧ c = n - k ∧ h = H ∧ (∀ j, j < k → okAt es j = true) ∧ ρ 0 = v ∧ ρ 3 = .int .i64 (k : Int)) ⟨0, Nat.zero_le _, rfl, rfl, by intro j hj; omega, rfl, rfl⟩ ?_
  clear hM
  rintro _ ρ h ⟨k, hk, rfl, rfl, hgood, g0, g3⟩
  refine goM ?_
  refine cond_go (fun hb => ?_) (fun hb => ?_)
  · have hk' : k < n := by simpa using hb
    clear hb
    obtain ⟨e, he⟩ : ∃ e, es[k]? = some e := ⟨es[k]'(by omega), by simp⟩
    obtain ⟨b, o, hie, _, l0, l1, l2⟩ := ent_at hx he
    have c1 := upTo12_ h e.id 0 1024
    have c2 := upTo12_ h (e.tx.size : Int) 1 256
    have c3 := upTo12_ h e.n 0 8
    rw [within_text] at c2
    have hsl := str_len0 e.tx
    have hw := wrap_succ (n := k) (by omega)
    have hfail := fun hq => may_fail (es := es) (k := k) (by omega) hq
    have hnext : okAt es k = true → ∀ j, j < k + 1 → okAt es j = true := fun ho j hj => by
      rcases Nat.lt_or_eq_of_le (Nat.le_of_lt_succ hj) with h1 | h1
      · exact hgood j h1
      · subst h1; exact ho
    have hoth := fun (m : Nat) (x : Ent) (hm : m < k) (hx : es[m]? = some x) (ht : txEq x.tx e.tx = true) => holdsN_other he hm hx ht
    have hown := fun (hall : ∀ (m : Nat) (x : Ent), m < k → es[m]? = some x → txEq x.tx e.tx = false) => holdsN_eq he rfl hall
    have hoe := okAt_eq he
    rw [entOk_split] at hoe
    obtain ⟨q1, e1⟩ : ∃ q, within e.id 0 1024 = q := ⟨_, rfl⟩
    obtain ⟨q2, e2⟩ : ∃ q, textOk e.tx = q := ⟨_, rfl⟩
    obtain ⟨q3, e3⟩ : ∃ q, within e.n 0 8 = q := ⟨_, rfl⟩
    rw [e1] at c1 hoe
    rw [e2] at c2 hoe
    rw [e3] at c3 hoe
    clear e1 e2 e3 hgood
    cases q1 with
    | false =>
      rw [hfail (by rw [hoe]; simp)]
      clear hfail hnext hoth hown hoe he hlen
      refine goM ?_
      refine d_call0G c1 ?_
      refine goM ?_
      exact end_1 (by first | exact .inl rfl | exact .inr rfl) ⟨rfl, List.prefix_refl _⟩
    | true =>
    cases q2 with
    | false =>
      rw [hfail (by rw [hoe]; simp)]
      clear hfail hnext hoth hown hoe he hlen
      refine goM ?_
      refine d_call0G c1 ?_
      refine goM ?_
      refine d_call0G c2 ?_
      refine goM ?_
      exact end_1 (by first | exact .inl rfl | exact .inr rfl) ⟨rfl, List.prefix_refl _⟩
    | true =>
    cases q3 with
    | false =>
      rw [hfail (by rw [hoe]; simp)]
      clear hfail hnext hoth hown hoe he hlen
      refine goM ?_
      refine d_call0G c1 ?_
      refine goM ?_
      refine d_call0G c2 ?_
      refine goM ?_
      refine d_call0G c3 ?_
      refine goM ?_
      exact end_1 (by first | exact .inl rfl | exact .inr rfl) ⟨rfl, List.prefix_refl _⟩
    | true =>
    obtain ⟨q4, e4⟩ : ∃ q, prevOk es k e = q := ⟨_, rfl⟩
    rw [e4] at hoe
    cases q4 with
    | false =>
      rw [hfail (by rw [hoe]; simp)]
      cases k with
      | zero => cases e4
      | succ k =>
        obtain ⟨p, hp⟩ : ∃ p, es[k]? = some p := ⟨es[k]'(by omega), by simp⟩
        obtain ⟨b2, o2, hip, _, m0, _⟩ := ent_at hx hp
        simp only [prevOk, hp] at e4
        have z0 : decide (((k + 1 : Nat) : Int) > 0) = true := decide_eq_true (by omega)
        have wk : IntKind.i64.wrap (((k + 1 : Nat) : Int) - 1) = (k : Int) := by rw [wrap_i64 (by omega) (by omega)]; omega
        have hcmp : decide (p.id ≥ e.id) = true := by
          have := of_decide_eq_false e4
          exact decide_eq_true (by omega)
        clear hfail hnext hoth hown hoe he hlen hp e4
        refine goM ?_
        refine d_call0G c1 ?_
        refine goM ?_
        refine d_call0G c2 ?_
        refine goM ?_
        refine d_call0G c3 ?_
        refine goM ?_
        exact end_1 (by first | exact .inl rfl | exact .inr rfl) ⟨rfl, List.prefix_refl _⟩
    | true =>
      have hgt : ∃ z : Bool, decide ((k : Int) > 0) = z ∧ (z = true → ∃ (p : Ent) (b2 o2 : Nat) (wk : Int), IntKind.i64.wrap ((k : Int) - 1) = wk ∧ idxV T 66 v wk = some (.ptr b2 o2) ∧ loadV T 3 h b2 o2 = some (.int .i64 p.id) ∧ decide (p.id ≥ e.id) = false) := by
        cases k with
        | zero => exact ⟨false, by decide, fun h => by cases h⟩
        | succ k =>
          obtain ⟨p, hp⟩ : ∃ p, es[k]? = some p := ⟨es[k]'(by omega), by simp⟩
          obtain ⟨b2, o2, hip, _, m0, _⟩ := ent_at hx hp
          simp only [prevOk, hp] at e4
          refine ⟨true, decide_eq_true (by omega), fun _ => ⟨p, b2, o2, k, by rw [wrap_i64 (by omega) (by omega)]; omega, hip, m0, ?_⟩⟩
          have := of_decide_eq_true e4
          exact decide_eq_false (by omega)
      obtain ⟨z, hz, hzt⟩ := hgt
      cases z with
      | false =>
        clear hzt e4
        refine goM ?_
        refine d_call0G c1 ?_
        refine goM ?_
        refine d_call0G c2 ?_
        refine goM ?_
        refine d_call0G c3 ?_
        refine goM ?_
        clear hz c1 c2 c3 l0 l2 hsl
        refine wq_loop (fun c ρ h' => ∃ m : Nat, m ≤ k ∧ c = k - m ∧ h' = h ∧ (∀ (j : Nat) (x : Ent), j < m → es[j]? = some x → txEq x.tx e.tx = false) ∧ ρ 0 = v ∧ ρ 3 = .int .i64 (k : Int) ∧ ρ 4 = .int .i64 (m : Int)) ⟨0, Nat.zero_le _, rfl, rfl, by intro j x hj; omega, by simp [put_app, put_none, *], by simp [put_app, put_none, *], rfl⟩ ?_
        clear g0 g3
        rintro _ ρ h' ⟨m, hm, rfl, rfl, hall, g0, g3, g4⟩
        refine goM ?_
        refine cond_go (fun hb => ?_) (fun hb => ?_)
        · have hm' : m < k := by simpa using hb
          clear hb
          obtain ⟨y, hy⟩ : ∃ e, es[m]? = some e := ⟨es[m]'(by omega), by simp⟩
          obtain ⟨b3, o3, hi3, _, _, k1, _⟩ := ent_at hx hy
          have hwm := wrap_succ (n := m) (by omega)
          cases hq : txEq y.tx e.tx with
          | true =>
            rw [hfail (hoth m y hm' hy hq)]
            replace hq := (tx_def y.tx e.tx).trans hq
            clear hfail hnext hoth hown hoe he hlen hall hy
            refine goM ?_
            exact end_1 (by first | exact .inl rfl | exact .inr rfl) ⟨rfl, List.prefix_refl _⟩
          | false =>
            have hall2 : ∀ (j : Nat) (x : Ent), j < m + 1 → es[j]? = some x → txEq x.tx e.tx = false := fun j x hj hx => by
              rcases Nat.lt_or_eq_of_le (Nat.le_of_lt_succ hj) with h1 | h1
              · exact hall j x h1 hx
              · subst h1
                rw [hy] at hx; cases hx; exact hq
            replace hq := (tx_def y.tx e.tx).trans hq
            clear hfail hnext hoth hown hoe he hlen hall hy
            refine goM ?_
            exact ⟨k - (m + 1), by omega, m + 1, hm', rfl, rfl, hall2, by simp [put_app, put_none, *]⟩
        · have hm' : m = k := by have : ¬ m < k := by simpa using hb
                                 omega
          subst hm'
          have hg := hnext (by rw [hoe, hown hall]; simp)
          clear hb hfail hnext hoth hown hoe he hlen hall
          refine goM ?_
          exact ⟨n - (m + 1), by omega, m + 1, hk', rfl, rfl, hg, by simp [put_app, put_none, *]⟩
      | true =>
        obtain ⟨p, b2, o2, wk, hwk, hip, m0, hcmp⟩ := hzt rfl
        clear hzt e4
        refine goM ?_
        refine d_call0G c1 ?_
        refine goM ?_
        refine d_call0G c2 ?_
        refine goM ?_
        refine d_call0G c3 ?_
        refine goM ?_
        clear hz c1 c2 c3 l0 l2 hsl hip m0 hcmp hwk
        refine wq_loop (fun c ρ h' => ∃ m : Nat, m ≤ k ∧ c = k - m ∧ h' = h ∧ (∀ (j : Nat) (x : Ent), j < m → es[j]? = some x → txEq x.tx e.tx = false) ∧ ρ 0 = v ∧ ρ 3 = .int .i64 (k : Int) ∧ ρ 4 = .int .i64 (m : Int)) ⟨0, Nat.zero_le _, rfl, rfl, by intro j x hj; omega, by simp [put_app, put_none, *], by simp [put_app, put_none, *], rfl⟩ ?_
        clear g0 g3
        rintro _ ρ h' ⟨m, hm, rfl, rfl, hall, g0, g3, g4⟩
        refine goM ?_
        refine cond_go (fun hb => ?_) (fun hb => ?_)
        · have hm' : m < k := by simpa using hb
          clear hb
          obtain ⟨y, hy⟩ : ∃ e, es[m]? = some e := ⟨es[m]'(by omega), by simp⟩
          obtain ⟨b3, o3, hi3, _, _, k1, _⟩ := ent_at hx hy
          have hwm := wrap_succ (n := m) (by omega)
          cases hq : txEq y.tx e.tx with
          | true =>
            rw [hfail (hoth m y hm' hy hq)]
            replace hq := (tx_def y.tx e.tx).trans hq
            clear hfail hnext hoth hown hoe he hlen hall hy
            refine goM ?_
            exact end_1 (by first | exact .inl rfl | exact .inr rfl) ⟨rfl, List.prefix_refl _⟩
          | false =>
            have hall2 : ∀ (j : Nat) (x : Ent), j < m + 1 → es[j]? = some x → txEq x.tx e.tx = false := fun j x hj hx => by
              rcases Nat.lt_or_eq_of_le (Nat.le_of_lt_succ hj) with h1 | h1
              · exact hall j x h1 hx
              · subst h1
                rw [hy] at hx; cases hx; exact hq
            replace hq := (tx_def y.tx e.tx).trans hq
            clear hfail hnext hoth hown hoe he hlen hall hy
            refine goM ?_
            exact ⟨k - (m + 1), by omega, m + 1, hm', rfl, rfl, hall2, by simp [put_app, put_none, *]⟩
        · have hm' : m = k := by have : ¬ m < k := by simpa using hb
                                 omega
          subst hm'
          have hg := hnext (by rw [hoe, hown hall]; simp)
          clear hb hfail hnext hoth hown hoe he hlen hall
          refine goM ?_
          exact ⟨n - (m + 1), by omega, m + 1, hk', rfl, rfl, hg, by simp [put_app, put_none, *]⟩
  · have hk' : k = n := by have : ¬ k < n := by simpa using hb
                           omega
    subst hk'
    have hres : storeMay es = decide ((k : Int) ≤ 64) := by
      unfold storeMay
      have : (List.range es.length).all (okAt es) = true := by
        simp only [List.all_eq_true, List.mem_range]
        exact fun i hi => hgood i (by omega)
      rw [this, hn, Bool.and_true]
      apply Bool.eq_iff_iff.2
      simp only [decide_eq_true_eq]; omega
    rw [hres]
    clear hb hres hgood
    refine goM ?_
    exact end_1 (by first | exact .inl rfl | exact .inr rfl) ⟨rfl, List.prefix_refl _⟩
end Go.Proofs.Ytekifjeckbndiaa.VM

/- Layer 15: the document's PutStore, DropStore, GetStore, SweepStore. -/
namespace Go.Proofs.Ytekifjeckbndiaa.VM
open Go
set_option linter.unusedVariables false
set_option linter.unusedSimpArgs false
attribute [local irreducible] wq wqL wqD wqE wqO Th Bk EndR
set_option maxHeartbeats 8000000

theorem refPut15_ (H : Heap) (v : V) (es : List Ent) (s : ByteArray) (hx : Sl 3 entC H v es) (hl : es.length ≤ 2 ^ 47) :
    ∃ w H', Call Try.prog 34 [v, .str s] H w H' ∧ ∃ u, w = .tup [u, .int .i64 (putS es s).2.1, .int .i64 (putS es s).2.2] ∧ Mem H H' [.own 3 entC u (putS es s).1] := by
  refine call_mem fit mixed Try.func34 rfl rfl rfl (by kernel_rfl) fun hM => ?_
  have c1 := refStoreMay_ H v es hx hl
  have c2 := upTo12_ H (s.size : Int) 1 256
  rw [within_text] at c2
  have hsl := str_len0 s
  unfold putS
  cases hm : storeMay es with
  | false =>
    rw [hm] at c1
    rw [Bool.false_and, if_pos rfl]
    clear hm c2
    refine goM ?_
    refine l_callG c1 ?_
    refine goM ?_
    exact end_3 (by first | exact .inl rfl | exact .inr rfl) ⟨_, rfl, hM.nil 3 entC⟩
  | true =>
    rw [hm] at c1
    have hs := store_of hm
    cases ht : textOk s with
    | false =>
      rw [ht] at c2
      rw [Bool.and_false, if_pos rfl]
      clear hm ht hs
      refine goM ?_
      refine l_callG c1 ?_
      refine goM ?_
      refine l_callG c2 ?_
      refine goM ?_
      exact end_3 (by first | exact .inl rfl | exact .inr rfl) ⟨_, rfl, hM.nil 3 entC⟩
    | true =>
      rw [ht] at c2
      rw [Bool.and_true, if_neg (by decide)]
      have hn64 := hs.len
      have hlen := hx.len T66 rfl
      obtain ⟨n, hn⟩ : ∃ n, es.length = n := ⟨_, rfl⟩
      rw [hn] at hlen hn64
      clear hm ht
      refine goM ?_
      refine l_callG c1 ?_
      refine goM ?_
      refine l_callG c2 ?_
      refine goM ?_
      refine l_sliceM entC [] [] T66 rfl T86 rfl (cells_ents []) (by decide) fun e1 H3 hM => ?_
      refine goM ?_
      refine l_appM (hx.mono hM.pre) (xs := []) (hb := by simp only [List.length_nil]; omega) fun u H1 hM => ?_
      have hlenu := (hM.sl .here).len T66 rfl
      rw [List.nil_append, hn] at hlenu
      rw [List.nil_append] at hM
      clear c1 c2
      refine goM ?_
      refine wq_loop (fun c ρ h => ∃ k : Nat, k ≤ n ∧ c = n - k ∧ h = H1 ∧ (∀ (j : Nat) (x : Ent), j < k → es[j]? = some x → txEq x.tx s = false) ∧ ρ 0 = v ∧ ρ 1 = .str s ∧ ρ 7 = u ∧ ρ 8 = .int .i64 (k : Int)) ⟨0, Nat.zero_le _, rfl, rfl, by intro j x hj; omega, rfl, rfl, rfl, rfl⟩ ?_
      rintro _ ρ h ⟨k, hk, rfl, rfl, hall, g0, g1, g7, g8⟩
      refine goM ?_
      refine cond_go (fun hb => ?_) (fun hb => ?_)
      · have hk' : k < n := by simpa using hb
        clear hb
        obtain ⟨e, he⟩ : ∃ e, es[k]? = some e := ⟨es[k]'(by omega), by simp⟩
        obtain ⟨b, o, hie, _, _, lo1, lo2⟩ := ent_at (hM.sl .here) he
        have hw := wrap_succ (n := k) (by omega)
        have hkl := (List.getElem?_eq_some_iff.1 he).1
        cases hq : txEq e.tx s with
        | false =>
          have hall2 : ∀ (j : Nat) (x : Ent), j < k + 1 → es[j]? = some x → txEq x.tx s = false := fun j x hj hx => by
            rcases Nat.lt_or_eq_of_le (Nat.le_of_lt_succ hj) with h1 | h1
            · exact hall j x h1 hx
            · subst h1
              rw [he] at hx; cases hx; exact hq
          replace hq := (tx_def e.tx s).trans hq
          clear he hall hs
          refine goM ?_
          exact ⟨n - (k + 1), by omega, k + 1, hk', rfl, rfl, hall2, by simp [put_app, put_none, *]⟩
        | true =>
          have hN : holdsN es s = k := holdsN_eq he (txEq_iff.1 hq) hall
          rw [hN, he]
          simp only
          replace hq := (tx_def e.tx s).trans hq
          obtain ⟨hn0, hn8⟩ := ent_n hs he
          have wn : IntKind.i64.wrap (e.n + 1) = e.n + 1 := wrap_i64 (by omega) (by omega)
          obtain ⟨H2, hst, m2⟩ := hM.bump .here he 1 hie
          obtain ⟨_, _, hie', _, lo0, _⟩ := ent_at (m2.sl .here) (k := k) (e := ⟨e.id, e.tx, e.n + 1⟩) (by rw [bump_at 1 he, List.getElem?_set_self hkl])
          rw [hie] at hie'
          cases hie'
          by_cases h8 : e.n = 8
          · have d8 : (e.n == 8) = true := by rw [h8]; rfl
            simp only [h8, if_true]
            clear hst m2 hn0 hn8 he hs wn h8 hkl hall hN
            refine goM ?_
            exact end_3 (by first | exact .inl rfl | exact .inr rfl) ⟨_, rfl, (hM.sub (L' := []) (by simp)).nil 3 entC⟩
          · have d8 : (e.n == 8) = false := by simpa using h8
            simp only [h8, if_false]
            clear hn0 hn8 he hs h8 hkl hM hall hN
            refine goM ?_
            refine l_stM hst ?_
            refine goM ?_
            exact end_3 (by first | exact .inl rfl | exact .inr rfl) ⟨_, rfl, m2.sub (by (repeat (first | exact List.Sublist.slnil | exact List.Sublist.refl _ | refine List.Sublist.cons_cons _ ?_ | refine List.Sublist.cons _ ?_)))⟩
      · have hk' : k = n := by have : ¬ k < n := by simpa using hb
                               omega
        subst hk'
        have hN : holdsN es s = es.length := holdsN_none fun j x hx => hall j x (by have := (List.getElem?_eq_some_iff.1 hx).1; omega) hx
        rw [hN, List.getElem?_eq_none (Nat.le_refl _)]
        simp only
        rw [hn]
        clear hb hall hN hs
        have hl64 : ((k : Int) == 64) = decide (k = 64) := by
          by_cases h : k = 64
          · subst h; rfl
          · rw [decide_eq_false h]; simp; omega
        by_cases h64 : k = 64
        · rw [decide_eq_true h64] at hl64
          rw [if_pos h64]
          clear h64
          refine goM ?_
          exact end_3 (by first | exact .inl rfl | exact .inr rfl) ⟨_, rfl, (hM.sub (L' := []) (by simp)).nil 3 entC⟩
        · rw [decide_eq_false h64] at hl64
          rw [if_neg h64]
          clear h64
          refine goM ?_
          obtain ⟨z, hz⟩ : ∃ z, freeN es = z := ⟨_, rfl⟩
          rw [hz]
          clear g7 g8 hl64
          refine wq_loop (fun c ρ h' => ∃ q : Nat, q ≤ k ∧ c = k - q ∧ h' = h ∧ freeFrom (es.drop q) q = z ∧ ρ 0 = v ∧ ρ 1 = .str s ∧ ρ 9 = .int .i64 (q : Int)) ⟨0, Nat.zero_le _, rfl, rfl, hz, by simp [put_app, put_none, *], by simp [put_app, put_none, *], rfl⟩ ?_
          clear g0 g1
          rintro _ ρ h' ⟨q, hq, rfl, rfl, hfr, g0, g1, g9⟩
          have hxh := hx.mono hM.pre
          by_cases hqk : q < k ∧ ∃ e, es[q]? = some e ∧ e.id = (q : Int)
          · obtain ⟨hq', e, he, hek⟩ := hqk
            obtain ⟨b, o, hie, _, lo0, _⟩ := ent_at hxh he
            have dkn : decide ((q : Int) < (k : Int)) = true := decide_eq_true (by omega)
            have dek : (e.id == (q : Int)) = true := by simpa using hek
            rw [freeFrom_step he, if_pos hek] at hfr
            have hw := wrap_succ (n := q) (by omega)
            clear he hek
            refine goM ?_
            exact ⟨k - (q + 1), by omega, q + 1, hq', rfl, rfl, hfr, by simp [put_app, put_none, *]⟩
          · have hqz : q = z := by
              by_cases hq' : q < k
              · obtain ⟨e, he⟩ : ∃ e, es[q]? = some e := ⟨es[q]'(by omega), by simp⟩
                rw [freeFrom_step he, if_neg (fun h => hqk ⟨hq', e, he, h⟩)] at hfr
                exact hfr
              · obtain rfl : q = k := by omega
                rw [List.drop_eq_nil_of_le (by omega)] at hfr
                exact hfr
            have hstop : decide ((q : Int) < (k : Int)) = false ∨ ∃ (e : Ent) (b o : Nat), decide ((q : Int) < (k : Int)) = true ∧ idxV T 66 v (q : Int) = some (.ptr b o) ∧ loadV T 3 h' b o = some (.int .i64 e.id) ∧ (e.id == (q : Int)) = false := by
              by_cases hq' : q < k
              · obtain ⟨e, he⟩ : ∃ e, es[q]? = some e := ⟨es[q]'(by omega), by simp⟩
                obtain ⟨b, o, hie, _, lo0, _⟩ := ent_at hxh he
                refine .inr ⟨e, b, o, decide_eq_true (by omega), hie, lo0, ?_⟩
                have : ¬ e.id = (q : Int) := fun h => hqk ⟨hq', e, he, h⟩
                simpa using this
              · exact .inl (decide_eq_false (by omega))
            have htake := hx.take (k := q) (by omega)
            have hrest := hx.rest (l := q) (by omega)
            obtain ⟨ut, hut, hst⟩ := htake
            obtain ⟨ur, hur, hsr⟩ := hrest
            subst hqz
            have hb1 : (es.take q).length ≤ 64 := by rw [List.length_take]; omega
            have hb2 : (es.drop q).length ≤ 64 := by rw [List.length_drop]; omega
            clear hz hqk hfr
            have hlt : (es.take q).length + (es.drop q).length = es.length := by rw [List.length_take, List.length_drop]; omega
            rcases hstop with hd | ⟨e, b, o, hd, hie, lo0, dek⟩
            all_goals
              refine goM ?_
              refine l_sliceM entC [] [] T66 rfl T86 rfl (cells_ents []) (by decide) fun e1 H3 hM => ?_
              refine goM ?_
              refine l_appM (hst.mono hM.pre) (xs := []) (hb := by simp only [List.length_nil]; omega) fun u1 H4 hM => ?_
              rw [List.nil_append] at hM
              refine goM ?_
              refine l_sliceM entC [⟨(q : Int), s, 1⟩] (entV ⟨(q : Int), s, 1⟩) T66 rfl T86 rfl (cells_ents [⟨(q : Int), s, 1⟩]) (by decide) fun e2 H5 hM => ?_
              refine goM ?_
              refine l_appM (hM.sl .here) (xs := es.take q) (hh := .there .here) (hb := by simp only [List.length_cons, List.length_nil]; omega) fun u2 H6 hM => ?_
              refine goM ?_
              refine l_appM (hsr.mono hM.pre) (xs := es.take q ++ [⟨(q : Int), s, 1⟩]) (hh := .there .here) (hb := by simp only [List.length_append, List.length_cons, List.length_nil]; omega) fun u3 H7 hM => ?_
              rw [List.append_assoc] at hM
              refine goM ?_
              exact end_3 (by first | exact .inl rfl | exact .inr rfl) ⟨_, rfl, hM.subG⟩

theorem refDrop15_ (H : Heap) (v : V) (es : List Ent) (id : Int) (hx : Sl 3 entC H v es) (hl : es.length ≤ 2 ^ 47) :
    ∃ w H', Call Try.prog 36 [v, .int .i64 id] H w H' ∧ ∃ u, w = .tup [u, .int .i64 (dropS es id).2] ∧ Mem H H' [.own 3 entC u (dropS es id).1] := by
  refine call_mem fit mixed Try.func36 rfl rfl rfl (by kernel_rfl) fun hM => ?_
  have c1 := refStoreMay_ H v es hx hl
  cases hm : storeMay es with
  | false =>
    have hr : dropS es id = ([], 1500) := by unfold dropS; rw [if_pos hm]
    rw [hm] at c1
    rw [hr]
    clear hm
    refine goM ?_
    refine l_callG c1 ?_
    refine goM ?_
    exact end_2 (by first | exact .inl rfl | exact .inr rfl) ⟨_, rfl, hM.nil 3 entC⟩
  | true =>
    rw [hm] at c1
    have hdef : ∀ r, (∀ x : List Ent × Int, (match es[findN es id]? with
        | none => ([], 1502)
        | some e => if e.n = 0 then ([], 1502) else (bump es (findN es id) (-1), 0)) = x → x = r) → dropS es id = r := fun r h => h _ (by unfold dropS; rw [if_neg (by rw [hm]; decide)]; cases es[findN es id]? <;> rfl)
    have hs := store_of hm
    have hn64 := hs.len
    obtain ⟨n, hn⟩ : ∃ n, es.length = n := ⟨_, rfl⟩
    rw [hn] at hn64
    clear hm
    refine goM ?_
    refine l_callG c1 ?_
    refine goM ?_
    refine l_sliceM entC [] [] T66 rfl T86 rfl (cells_ents []) (by decide) fun e1 H3 hM => ?_
    refine goM ?_
    refine l_appM (hx.mono hM.pre) (xs := []) (hb := by simp only [List.length_nil]; omega) fun u H1 hM => ?_
    have hlenu := (hM.sl .here).len T66 rfl
    rw [List.nil_append, hn] at hlenu
    rw [List.nil_append] at hM
    clear c1
    refine goM ?_
    refine wq_loop (fun c ρ h => ∃ k : Nat, k ≤ n ∧ c = n - k ∧ h = H1 ∧ (∀ (j : Nat) (x : Ent), j < k → es[j]? = some x → x.id = id → x.n = 0) ∧ ρ 1 = .int .i64 id ∧ ρ 6 = u ∧ ρ 7 = .int .i64 (k : Int)) ⟨0, Nat.zero_le _, rfl, rfl, by intro j x hj; omega, rfl, rfl, rfl⟩ ?_
    rintro _ ρ h ⟨k, hk, rfl, rfl, hall, g1, g6, g7⟩
    refine goM ?_
    refine cond_go (fun hb => ?_) (fun hb => ?_)
    · have hk' : k < n := by simpa using hb
      clear hb
      obtain ⟨e, he⟩ : ∃ e, es[k]? = some e := ⟨es[k]'(by omega), by simp⟩
      obtain ⟨b, o, hie, _, lo0, _, lo2⟩ := ent_at (hM.sl .here) he
      have hw := wrap_succ (n := k) (by omega)
      obtain ⟨hn0, hn8⟩ := ent_n hs he
      by_cases hgo : e.id = id ∧ e.n ≠ 0
      · obtain ⟨h1, h2⟩ := hgo
        have d1 : (e.id == id) = true := by simpa using h1
        have d2 : decide (e.n > 0) = true := decide_eq_true (by omega)
        have hF : findN es id = k := by
          unfold findN
          have hlt := (List.getElem?_eq_some_iff.1 he).1
          rw [List.findIdx_eq hlt]
          have hel : es[k] = e := by rw [List.getElem?_eq_getElem hlt] at he; exact Option.some.inj he
          refine ⟨by rw [hel]; exact decide_eq_true h1, fun j hj => ?_⟩
          have := hs.up j k (es[j]'(by omega)) e hj (by simp) he
          rw [h1] at this
          simp; omega
        have hr : dropS es id = (bump es k (-1), 0) := hdef _ fun x hx => by
          rw [hF, he] at hx
          simp only at hx
          rw [if_neg h2] at hx
          exact hx.symm
        rw [hr]
        have wn : IntKind.i64.wrap (e.n - 1) = e.n + -1 := by rw [wrap_i64 (by omega) (by omega)]; omega
        obtain ⟨H2, hst, m2⟩ := hM.bump .here he (-1) hie
        clear hn0 hn8 he hs h1 h2 hM hall hF hdef hr
        refine goM ?_
        refine l_stM hst ?_
        refine goM ?_
        exact end_2 (by first | exact .inl rfl | exact .inr rfl) ⟨_, rfl, m2.sub (by (repeat (first | exact List.Sublist.slnil | exact List.Sublist.refl _ | refine List.Sublist.cons_cons _ ?_ | refine List.Sublist.cons _ ?_)))⟩
      · have hall2 : ∀ (j : Nat) (x : Ent), j < k + 1 → es[j]? = some x → x.id = id → x.n = 0 := fun j x hj hx hid => by
          rcases Nat.lt_or_eq_of_le (Nat.le_of_lt_succ hj) with h1 | h1
          · exact hall j x h1 hx hid
          · subst h1
            rw [he] at hx; cases hx
            exact Classical.not_not.1 fun h => hgo ⟨hid, h⟩
        cases d1 : (e.id == id) with
        | false =>
          clear hn0 hn8 he hs hall hgo hdef
          refine goM ?_
          exact ⟨n - (k + 1), by omega, k + 1, hk', rfl, rfl, hall2, by simp [put_app, put_none, *]⟩
        | true =>
          have h1 : e.id = id := by simpa using d1
          have h2 : e.n = 0 := Classical.not_not.1 fun h => hgo ⟨h1, h⟩
          have d2 : decide (e.n > 0) = false := decide_eq_false (by omega)
          clear hn0 hn8 he hs hall hgo h1 h2 hdef
          refine goM ?_
          exact ⟨n - (k + 1), by omega, k + 1, hk', rfl, rfl, hall2, by simp [put_app, put_none, *]⟩
    · have hk' : k = n := by have : ¬ k < n := by simpa using hb
                             omega
      subst hk'
      have hr : dropS es id = ([], 1502) := hdef _ fun x hx => by
        cases hf : es[findN es id]? with
        | none => rw [hf] at hx; exact hx.symm
        | some e =>
          have hlt := (List.getElem?_eq_some_iff.1 hf).1
          have hid : e.id = id := by
            have := List.findIdx_getElem (xs := es) (p := fun e : Ent => decide (e.id = id)) (w := hlt)
            have h2 := of_decide_eq_true this
            have hel : es[findN es id] = e := by rw [List.getElem?_eq_getElem hlt] at hf; exact Option.some.inj hf
            rw [← hel]; exact h2
          rw [hf] at hx
          simp only at hx
          rw [if_pos (hall _ e (by omega) hf hid)] at hx
          exact hx.symm
      rw [hr]
      clear hb hall hs hdef hr
      refine goM ?_
      exact end_2 (by first | exact .inl rfl | exact .inr rfl) ⟨.nils, rfl, (hM.sub (L' := []) (by simp)).nil 3 entC⟩

theorem refGet15_ (H : Heap) (v : V) (es : List Ent) (id : Int) (hx : Sl 3 entC H v es) (hl : es.length ≤ 2 ^ 47) :
    Call Try.prog 38 [v, .int .i64 id] H (.tup [.str (getS es id).1, .bool (getS es id).2]) H := by
  refine call_pure fit mixed Try.func38 rfl rfl rfl (by kernel_rfl) rfl fun hM => ?_
  have c1 := refStoreMay_ H v es hx hl
  obtain ⟨n, hn⟩ : ∃ n, es.length = n := ⟨_, rfl⟩
  have hlen := hx.len T66 rfl
  rw [hn] at hlen
  refine goM ?_
  refine wq_loop (fun c ρ h => ∃ k : Nat, k ≤ n ∧ c = n - k ∧ h = H ∧ (∀ (j : Nat) (x : Ent), j < k → es[j]? = some x → x.id ≠ id) ∧ ρ 0 = v ∧ ρ 1 = .int .i64 id ∧ ρ 6 = .int .i64 (k : Int)) ⟨0, Nat.zero_le _, rfl, rfl, by intro j x hj; omega, rfl, rfl, rfl⟩ ?_
  clear hM
  rintro _ ρ h ⟨k, hk, rfl, rfl, hall, g0, g1, g6⟩
  by_cases hkn : k < n
  · have dk : decide ((k : Int) < (n : Int)) = true := decide_eq_true (by omega)
    cases hm : storeMay es with
    | false =>
      rw [hm] at c1
      unfold getS
      rw [hm, if_pos rfl]
      clear hm hall
      refine goM ?_
      refine l_callG c1 ?_
      refine goM ?_
      exact end_2 (by first | exact .inl rfl | exact .inr rfl) ⟨rfl, List.prefix_refl _⟩
    | true =>
      rw [hm] at c1
      obtain ⟨e, he⟩ : ∃ e, es[k]? = some e := ⟨es[k]'(by omega), by simp⟩
      obtain ⟨b, o, hie, _, lo0, lo1, _⟩ := ent_at hx he
      have hw := wrap_succ (n := k) (by omega)
      by_cases hid : e.id = id
      · have d1 : (e.id == id) = true := by simpa using hid
        have hF : findN es id = k := by
          unfold findN
          have hlt := (List.getElem?_eq_some_iff.1 he).1
          rw [List.findIdx_eq hlt]
          have hel : es[k] = e := by rw [List.getElem?_eq_getElem hlt] at he; exact Option.some.inj he
          refine ⟨by rw [hel]; exact decide_eq_true hid, fun j hj => ?_⟩
          have := hall j (es[j]'(by omega)) hj (by simp)
          simpa using this
        unfold getS
        rw [hm, if_neg (by decide), hF, he]
        clear hm hall hF he hid
        refine goM ?_
        refine l_callG c1 ?_
        refine goM ?_
        exact end_2 (by first | exact .inl rfl | exact .inr rfl) ⟨rfl, List.prefix_refl _⟩
      · have d1 : (e.id == id) = false := by simpa using hid
        have hall2 : ∀ (j : Nat) (x : Ent), j < k + 1 → es[j]? = some x → x.id ≠ id := fun j x hj hx => by
          rcases Nat.lt_or_eq_of_le (Nat.le_of_lt_succ hj) with h1 | h1
          · exact hall j x h1 hx
          · subst h1
            rw [he] at hx; cases hx; exact hid
        clear hm hall he hid
        refine goM ?_
        refine l_callG c1 ?_
        refine goM ?_
        exact ⟨n - (k + 1), by omega, k + 1, hkn, rfl, rfl, hall2, by simp [put_app, put_none, *]⟩
  · have dk : decide ((k : Int) < (n : Int)) = false := decide_eq_false (by omega)
    have hres : getS es id = (⟨#[]⟩, false) := by
      unfold getS
      split
      · rfl
      · have : es[findN es id]? = none := by
          rw [List.getElem?_eq_none_iff]
          apply Nat.le_of_not_lt
          intro hlt
          have h2 := List.findIdx_getElem (xs := es) (p := fun e : Ent => decide (e.id = id)) (w := hlt)
          exact hall (findN es id) (es[findN es id]'hlt) (by omega) (by simp) (of_decide_eq_true h2)
        rw [this]
    rw [hres]
    clear hall hres hkn
    refine goM ?_
    exact end_2 (by first | exact .inl rfl | exact .inr rfl) ⟨rfl, List.prefix_refl _⟩

theorem refSweep15_ (H : Heap) (v : V) (es : List Ent) (hx : Sl 3 entC H v es) (hl : es.length ≤ 2 ^ 47) :
    ∃ w H', Call Try.prog 40 [v] H w H' ∧ ∃ u, w = .tup [u, .int .i64 (sweepS es).2] ∧ Mem H H' [.own 3 entC u (sweepS es).1] := by
  refine call_mem fit mixed Try.func40 rfl rfl rfl (by kernel_rfl) fun hM => ?_
  have c1 := refStoreMay_ H v es hx hl
  unfold sweepS
  cases hm : storeMay es with
  | false =>
    rw [hm] at c1
    rw [if_pos rfl]
    clear hm
    refine goM ?_
    refine l_callG c1 ?_
    refine goM ?_
    exact end_2 (by first | exact .inl rfl | exact .inr rfl) ⟨_, rfl, hM.nil 3 entC⟩
  | true =>
    rw [hm] at c1
    rw [if_neg (by decide)]
    have hs := store_of hm
    have hn64 := hs.len
    obtain ⟨n, hn⟩ : ∃ n, es.length = n := ⟨_, rfl⟩
    have hlen := hx.len T66 rfl
    rw [hn] at hn64 hlen
    clear hm
    refine goM ?_
    refine l_callG c1 ?_
    refine goM ?_
    clear c1
    replace hM := hM.nil 3 entC
    refine wq_loop (fun c ρ h => ∃ (k : Nat) (u : V), k ≤ n ∧ c = n - k ∧ Mem H h [.own 3 entC u ((es.take k).filter fun e => decide (e.n ≠ 0))] ∧ ρ 0 = v ∧ ρ 4 = u ∧ ρ 5 = .int .i64 (k : Int)) ⟨0, .nils, Nat.zero_le _, rfl, by simpa using hM, rfl, rfl, rfl⟩ ?_
    clear hM
    rintro _ ρ h ⟨k, u, hk, rfl, hM, g0, g4, g5⟩
    refine goM ?_
    refine cond_go (fun hb => ?_) (fun hb => ?_)
    · have hk' : k < n := by simpa using hb
      clear hb
      obtain ⟨e, he⟩ : ∃ e, es[k]? = some e := ⟨es[k]'(by omega), by simp⟩
      obtain ⟨b, o, hie, hlo, _, _, lo2⟩ := ent_at (hx.mono hM.pre) he
      have hw := wrap_succ (n := k) (by omega)
      obtain ⟨hn0, hn8⟩ := ent_n hs he
      have hfs : (es.take (k + 1)).filter (fun e => decide (e.n ≠ 0)) = (es.take k).filter (fun e => decide (e.n ≠ 0)) ++ (if decide (e.n ≠ 0) = true then [e] else []) := by
        rw [List.take_add_one, he, List.filter_append]
        simp [List.filter_cons]
      have hfl : ((es.take k).filter fun e => decide (e.n ≠ 0)).length ≤ 64 := by
        have := List.length_filter_le (fun e : Ent => decide (e.n ≠ 0)) (es.take k)
        rw [List.length_take] at this; omega
      by_cases h0 : e.n = 0
      · have d0 : decide (e.n > 0) = false := decide_eq_false (by omega)
        rw [if_neg (by simpa using h0), List.append_nil] at hfs
        rw [← hfs] at hM
        clear hn0 hn8 h0 he hfs hfl
        refine goM ?_
        exact ⟨n - (k + 1), by omega, k + 1, u, hk', rfl, hM, by simp [put_app, put_none, *]⟩
      · have d0 : decide (e.n > 0) = true := decide_eq_true (by omega)
        rw [if_pos (by simpa using h0)] at hfs
        clear hn0 hn8 h0 he
        refine goM ?_
        refine l_sliceM entC [e] (entV e) T66 rfl T86 rfl (cells_ents [e]) (by decide) fun e1 H2 hM => ?_
        refine goM ?_
        refine l_appM (hM.sl .here) (xs := (es.take k).filter fun e => decide (e.n ≠ 0)) (hh := .there .here) (hb := by simp only [List.length_cons, List.length_nil]; omega) fun u2 H6 hM => ?_
        rw [← hfs] at hM
        clear hfs hfl
        refine goM ?_
        exact ⟨n - (k + 1), by omega, k + 1, u2, hk', rfl, hM.drop, by simp [put_app, put_none, *]⟩
    · have hk' : k = n := by have : ¬ k < n := by simpa using hb
                             omega
      subst hk'
      clear hb
      rw [List.take_of_length_le (by omega)] at hM
      refine goM ?_
      exact end_2 (by first | exact .inl rfl | exact .inr rfl) ⟨_, rfl, hM⟩
end Go.Proofs.Ytekifjeckbndiaa.VM

/- Chapter 21: what is handed in: checkpoints, configs; the statement Trains. -/
namespace Go.Proofs.Ytekifjeckbndiaa.VM
open Go
set_option linter.unusedVariables false
set_option linter.unusedSimpArgs false
attribute [local irreducible] wq wqL wqD wqE wqO Th Bk EndR
set_option maxHeartbeats 8000000

theorem Sl.map {α β : Type} {sz : Nat} {R : List V → α → Prop} {R' : List V → β → Prop} {H : Heap} {v : V} {xs : List α} (f : α → β) (h : Sl sz R H v xs) (hf : ∀ cs x, R cs x → R' cs (f x)) : Sl sz R' H v (xs.map f) := by
  rcases h with ⟨rfl, rfl⟩ | ⟨b, off, cap, t, cs, wr, rfl, h1, h2, h3, h4⟩
  · exact .inl ⟨rfl, rfl⟩
  · refine .inr ⟨b, off, cap, t, cs, wr, by rw [List.length_map], by rw [List.length_map]; exact h1, h2, by rw [List.length_map]; exact h3, fun k y hy => ?_⟩
    rw [List.getElem?_map] at hy
    cases hx : xs[k]? with
    | none => rw [hx] at hy; cases hy
    | some x => rw [hx] at hy; cases hy; exact hf _ _ (h4 k x hx)
theorem Sl.all {α : Type} {sz : Nat} {R : List V → α → Prop} {Q : α → Prop} {H : Heap} {v : V} {xs : List α} (h : Sl sz R H v xs) (hf : ∀ cs x, R cs x → Q x) : ∀ x ∈ xs, Q x := fun x hx => by
  obtain ⟨k, hk⟩ := List.mem_iff_getElem?.1 hx
  rcases h with ⟨rfl, rfl⟩ | ⟨b, off, cap, t, cs, wr, rfl, h1, h2, h3, h4⟩
  · cases hx
  · exact hf _ _ (h4 k x hk)

theorem rd_hyper {K : Heap} {D : Type} {vs : List V} {d : DataW D} (h : Rd T K 29 vs d) : ∃ a b, vs = [.int .i64 a, .int .i64 b] := by
  obtain ⟨hl, hf⟩ := h.field T29 rfl
  replace hl : vs.length = 2 := hl
  obtain ⟨x0, h0⟩ := hf 0 _ _ rfl T3
  obtain ⟨x1, h1⟩ := hf 1 _ _ rfl T3
  obtain ⟨n0, e0, _⟩ := h0.isInt T3 rfl
  obtain ⟨n1, e1, _⟩ := h1.isInt T3 rfl
  match vs, hl, e0, e1 with
  | [a, b], _, e0, e1 =>
    simp at e0 e1
    subst e0; subst e1
    exact ⟨n0, n1, rfl⟩
theorem rd_shapecells {K : Heap} {D : Type} {vs : List V} {d : DataW D} (h : Rd T K 23 vs d) : ∃ a b, vs = [.int .i64 a, .int .i64 b] := by
  obtain ⟨hl, hf⟩ := h.field T23 rfl
  replace hl : vs.length = 2 := hl
  obtain ⟨x0, h0⟩ := hf 0 _ _ rfl T3
  obtain ⟨x1, h1⟩ := hf 1 _ _ rfl T3
  obtain ⟨n0, e0, _⟩ := h0.isInt T3 rfl
  obtain ⟨n1, e1, _⟩ := h1.isInt T3 rfl
  match vs, hl, e0, e1 with
  | [a, b], _, e0, e1 =>
    simp at e0 e1
    subst e0; subst e1
    exact ⟨n0, n1, rfl⟩
theorem rd_checkcells {K : Heap} {D : Type} {vs : List V} {d : DataW D} (hr : Rd T K 31 vs d) : ∃ w u k, vs = kC w u k ∧ KAt K w u k ∧ k.Fit := by
  obtain ⟨hl, hf⟩ := hr.field T31 rfl
  replace hl : vs.length = 5 := hl
  obtain ⟨x0, h0⟩ := hf 0 _ _ rfl T27
  obtain ⟨x1, h1⟩ := hf 1 _ _ rfl T27
  obtain ⟨x2, h2⟩ := hf 2 _ _ rfl T29
  obtain ⟨x3, h3⟩ := hf 3 _ _ rfl T3
  obtain ⟨n3, e3, _⟩ := h3.isInt T3 rfl
  obtain ⟨p, q, e2⟩ := rd_hyper h2
  match vs, hl, h0, h1, e2, e3 with
  | [a, b, c, e, f], _, h0, h1, e2, e3 =>
    simp at e2 e3
    obtain ⟨rfl, rfl⟩ := e2
    subst e3
    obtain ⟨ws, s1, l1⟩ := rd_ints ⟨_, T27, .inr ⟨rfl, h0⟩⟩
    obtain ⟨us, s2, l2⟩ := rd_ints ⟨_, T27, .inr ⟨rfl, h1⟩⟩
    exact ⟨a, b, ⟨ws, us, p, q, n3⟩, rfl, ⟨s1, s2⟩, ⟨Nat.le_trans l1 (by decide), Nat.le_trans l2 (by decide)⟩⟩
theorem rd_check {K : Heap} {D : Type} {v : V} {d : DataW D} (h : RdV T K 31 v d) : ∃ w u k, v = .agg (kC w u k) ∧ KAt K w u k ∧ k.Fit := by
  obtain ⟨vs, rfl, hr⟩ := h.agg T31 rfl
  obtain ⟨w, u, k, rfl, h1, h2⟩ := rd_checkcells hr
  exact ⟨w, u, k, rfl, h1, h2⟩
def rdRowC (K : Heap) (cs : List V) (p : (V × Int) × List Int) : Prop := cs = [p.1.1, .int .i64 p.1.2] ∧ Sl 1 intC K p.1.1 p.2 ∧ p.2.length * 8 ≤ 140737488351232
theorem rd_rows {K : Heap} {D : Type} {v : V} {d : DataW D} (h : RdV T K 24 v d) : ∃ rs, Rows K v rs ∧ rs.length * 32 ≤ 140737488351232 ∧ ∀ r ∈ rs, r.1.length * 8 ≤ 140737488351232 := by
  obtain ⟨xs, h1, h2⟩ := (h.plain T24 rfl).isSlice (R := rdRowC K) T24 rfl T64 fun cs x hx => by
    obtain ⟨x, xs, y, e, e1, e2⟩ := rd_rowcells hx
    exact ⟨((x, y), xs), e, e1, Nat.le_trans e2 (by decide)⟩
  have h3 := h1.all (Q := fun p => Sl 1 intC K p.1.1 p.2 ∧ p.2.length * 8 ≤ 140737488351232) fun cs x hx => hx.2
  refine ⟨xs.map fun p => (p.2, p.1.2), ⟨xs.map (·.1), h1.map (R' := rowC) (fun p => p.1) fun cs x hx => (show rowC cs x.1 from hx.1), by simp, fun k p r hp hr => ?_⟩, by rw [List.length_map]; exact Nat.le_trans h2 (by decide), fun r hr => ?_⟩
  · rw [List.getElem?_map] at hp hr
    cases hx : xs[k]? with
    | none => rw [hx] at hp; cases hp
    | some x =>
      rw [hx] at hp hr
      cases hp; cases hr
      exact ⟨(h3 x (List.mem_iff_getElem?.2 ⟨k, hx⟩)).1, rfl⟩
  · obtain ⟨x, hx, rfl⟩ := List.mem_map.1 hr
    exact (h3 x hx).2
theorem rd_config {K : Heap} {D : Type} {v : V} {d : DataW D} (h : RdV T K 26 v d) : ∃ c rv, v = .agg (cfgC c rv) ∧ Rows K rv c.rows ∧ c.Fit := by
  obtain ⟨vs, rfl, hr⟩ := h.agg T26 rfl
  obtain ⟨hl, hf⟩ := hr.field T26 rfl
  replace hl : vs.length = 9 := hl
  obtain ⟨x0, h0⟩ := hf 0 _ _ rfl T3
  obtain ⟨x1, h1⟩ := hf 1 _ _ rfl T23
  obtain ⟨x2, h2⟩ := hf 2 _ _ rfl T24
  obtain ⟨x3, h3⟩ := hf 3 _ _ rfl T3
  obtain ⟨x4, h4⟩ := hf 4 _ _ rfl T3
  obtain ⟨x5, h5⟩ := hf 5 _ _ rfl T3
  obtain ⟨x6, h6⟩ := hf 6 _ _ rfl T3
  obtain ⟨x7, h7⟩ := hf 7 _ _ rfl T4
  obtain ⟨n0, e0, _⟩ := h0.isInt T3 rfl
  obtain ⟨n1, n2, e1⟩ := rd_shapecells h1
  obtain ⟨n3, e3, _⟩ := h3.isInt T3 rfl
  obtain ⟨n4, e4, _⟩ := h4.isInt T3 rfl
  obtain ⟨n5, e5, _⟩ := h5.isInt T3 rfl
  obtain ⟨n6, e6, _⟩ := h6.isInt T3 rfl
  obtain ⟨n7, e7⟩ := h7.isBool T4 rfl
  match vs, hl, e0, e1, h2, e3, e4, e5, e6, e7 with
  | [a0, a1, a2, a3, a4, a5, a6, a7, a8], _, e0, e1, h2, e3, e4, e5, e6, e7 =>
    simp at e0 e1 e3 e4 e5 e6 e7
    obtain ⟨rfl, rfl⟩ := e1
    subst e0; subst e3; subst e4; subst e5; subst e6; subst e7
    obtain ⟨rs, q1, q2, q3⟩ := rd_rows ⟨_, T24, .inr ⟨rfl, h2⟩⟩
    exact ⟨⟨n0, n1, n2, rs, n3, n4, n5, n6, n7⟩, a3, rfl, q1, ⟨q2, q3⟩⟩

end Go.Proofs.Ytekifjeckbndiaa.VM

/- Chapter 15: the statements' helpers over entries; what every program answers. -/
namespace Go.Proofs.Ytekifjeckbndiaa.VM
open Go
set_option linter.unusedVariables false
set_option linter.unusedSimpArgs false
attribute [local irreducible] wq wqL wqD wqE wqO Th Bk EndR
set_option maxHeartbeats 8000000

def entEq (a b : Ent) : Bool := a.id == b.id && (txEq a.tx b.tx && (a.n == b.n && true))
theorem entEq_iff {a b : Ent} : entEq a b = true ↔ a = b := by
  obtain ⟨i, t, n⟩ := a
  obtain ⟨j, u, m⟩ := b
  unfold entEq
  simp only [Bool.and_eq_true, beq_iff_eq, txEq_iff, Bool.and_true, Ent.mk.injEq]
theorem eq_ent (a b : Ent) : vbin T .eql 86 (.agg (entV a)) (.agg (entV b)) = some (.bool (entEq a b)) := by
  unfold entEq
  rw [← tx_def]
  simp only [vbin, T86]; rfl
theorem ne_ent (a b : Ent) : vbin T .neq 86 (.agg (entV a)) (.agg (entV b)) = some (.bool (!entEq a b)) := by
  unfold entEq
  rw [← tx_def]
  simp only [vbin, T86]; rfl
def entsEq : List Ent → List Ent → Bool
  | [], [] => true
  | x :: xs, y :: ys => entEq x y && entsEq xs ys
  | _, _ => false
theorem entsEq_iff : ∀ {xs ys : List Ent}, entsEq xs ys = true ↔ xs = ys
  | [], [] => by simp [entsEq]
  | [], y :: ys => by simp [entsEq]
  | x :: xs, [] => by simp [entsEq]
  | x :: xs, y :: ys => by
    simp only [entsEq, Bool.and_eq_true, entEq_iff, entsEq_iff, List.cons.injEq]
theorem entsEq_self (xs : List Ent) : entsEq xs xs = true := entsEq_iff.2 rfl
theorem entsEq_no {xs ys : List Ent} (h : xs ≠ ys) : entsEq xs ys = false := by
  rw [Bool.eq_false_iff]; intro he; exact h (entsEq_iff.1 he)

theorem sameEnts_ (H : Heap) (u v : V) (xs ys : List Ent) (hx : Sl 3 entC H u xs) (hy : Sl 3 entC H v ys) (lx : xs.length ≤ 2 ^ 47) : Call Try.prog 41 [u, v] H (.bool (entsEq xs ys)) H := by
  refine call_pure fit mixed Try.func41 rfl rfl rfl (by kernel_rfl) rfl fun hM => ?_
  have hlx := hx.len T66 rfl
  have hly := hy.len T66 rfl
  obtain ⟨n, hn⟩ : ∃ n, xs.length = n := ⟨_, rfl⟩
  obtain ⟨m, hm⟩ : ∃ m, ys.length = m := ⟨_, rfl⟩
  rw [hn] at hlx
  rw [hm] at hly
  by_cases hnm : n = m
  · subst hnm
    have d : ((n : Int) != (n : Int)) = false := by simp
    refine goM ?_
    refine wq_loop (fun c ρ h => ∃ k : Nat, k ≤ n ∧ c = n - k ∧ h = H ∧ xs.take k = ys.take k ∧ ρ 0 = u ∧ ρ 1 = v ∧ ρ 5 = .int .i64 (k : Int)) ⟨0, Nat.zero_le _, rfl, rfl, by simp, rfl, rfl, rfl⟩ ?_
    clear hM d
    rintro _ ρ h ⟨k, hk, rfl, rfl, hsame, h0, h1, h5⟩
    refine goM ?_
    refine cond_go (fun hb => ?_) (fun hb => ?_)
    · have hk' : k < n := by simpa using hb
      clear hb
      obtain ⟨x, hxk⟩ : ∃ e, xs[k]? = some e := ⟨xs[k]'(by omega), by simp⟩
      obtain ⟨y, hyk⟩ : ∃ e, ys[k]? = some e := ⟨ys[k]'(by omega), by simp⟩
      obtain ⟨b, o, hi, hlo, _⟩ := ent_at hx hxk
      obtain ⟨b2, o2, hi2, hlo2, _⟩ := ent_at hy hyk
      have hw := wrap_succ (n := k) (by omega)
      have hne := ne_ent x y
      cases hq : entEq x y with
      | true =>
        rw [hq] at hne
        have ht := take_step hsame hxk hyk (entEq_iff.1 hq)
        clear hq hxk hyk
        repeat (first | (refine d_pl ?_; refine d_step (s_bin eLk eLk hne) ?_) | (refine l_pl ?_; refine l_goM ?_) | (refine d_pl ?_; refine d_goM ?_) | (refine l_gd ?_; first | refine l_onG ?_ | refine l_offG ?_ | refine l_offU ?_) | (refine d_gd ?_; first | refine d_onG ?_ | refine d_offG ?_ | refine d_offU ?_) | (refine cond_pl ?_; first | refine cond_yes ?_ | refine cond_no ?_) | refine wq_seq ?_ | refine wq_line ?_ | refine wq_draw (by decide +kernel) ?_ | refine wq_block ?_ | refine l_nil ?_ | refine d_nil ?_ | refine wq_skip ?_ | refine wq_ret ?_ | refine wq_exit ?_ | refine th_normal ?_ | refine th_ret ?_ | refine th_exit ?_ | refine bk_normal ?_ | refine bk_ret ?_ | refine bk_exit ?_ | refine bk_other rfl ?_)
        exact ⟨n - (k + 1), by omega, k + 1, hk', rfl, rfl, ht, by simp [put_app, put_none, *]⟩
      | false =>
        rw [hq] at hne
        have hno : entsEq xs ys = false := entsEq_no fun e => by
          subst e
          rw [hxk] at hyk
          cases hyk
          rw [entEq_iff.2 rfl] at hq; cases hq
        rw [hno]
        clear hq hxk hyk hno
        repeat (first | (refine d_pl ?_; refine d_step (s_bin eLk eLk hne) ?_) | (refine l_pl ?_; refine l_goM ?_) | (refine d_pl ?_; refine d_goM ?_) | (refine l_gd ?_; first | refine l_onG ?_ | refine l_offG ?_ | refine l_offU ?_) | (refine d_gd ?_; first | refine d_onG ?_ | refine d_offG ?_ | refine d_offU ?_) | (refine cond_pl ?_; first | refine cond_yes ?_ | refine cond_no ?_) | refine wq_seq ?_ | refine wq_line ?_ | refine wq_draw (by decide +kernel) ?_ | refine wq_block ?_ | refine l_nil ?_ | refine d_nil ?_ | refine wq_skip ?_ | refine wq_ret ?_ | refine wq_exit ?_ | refine th_normal ?_ | refine th_ret ?_ | refine th_exit ?_ | refine bk_normal ?_ | refine bk_ret ?_ | refine bk_exit ?_ | refine bk_other rfl ?_)
        exact end_1 (by first | exact .inl rfl | exact .inr rfl) ⟨rfl, List.prefix_refl _⟩
    · have hk' : k = n := by have : ¬ k < n := by simpa using hb
                             omega
      subst hk'
      clear hb
      rw [List.take_of_length_le (by omega), List.take_of_length_le (by omega)] at hsame
      rw [hsame, entsEq_self]
      clear hsame
      refine goM ?_
      exact end_1 (by first | exact .inl rfl | exact .inr rfl) ⟨rfl, List.prefix_refl _⟩
  · have d : ((n : Int) != (m : Int)) = true := by simp; omega
    have hno : entsEq xs ys = false := entsEq_no fun e => by subst e; omega
    rw [hno]
    clear hno hnm
    refine goM ?_
    exact end_1 (by first | exact .inl rfl | exact .inr rfl) ⟨rfl, List.prefix_refl _⟩

theorem copyEnts_ (H : Heap) (v : V) (es : List Ent) (hx : Sl 3 entC H v es) (hl : es.length * 32 ≤ 2 ^ 47) : ∃ w H', Call Try.prog 69 [v] H w H' ∧ Mem H H' [.own 3 entC w es] := by
  refine call_mem fit mixed Try.func69 rfl rfl rfl (by kernel_rfl) fun hM => ?_
  refine goM ?_
  refine l_sliceM entC [] [] T66 rfl T86 rfl (cells_ents []) (by decide) fun e1 H3 hM => ?_
  refine goM ?_
  refine l_appM (hx.mono hM.pre) (xs := []) (hb := by simp only [List.length_nil]; omega) fun a H4 hM => ?_
  refine goM ?_
  exact end_1 (by first | exact .inl rfl | exact .inr rfl) (hM.subG)

abbrev markE : Ent := ⟨0, ByteArray.empty, 77777⟩
theorem lendEnts_ (H : Heap) (v : V) (es : List Ent) (hx : Sl 3 entC H v es) (hl : (es.length + 2) * 32 ≤ 2 ^ 47) : ∃ w H', Call Try.prog 32 [v] H w H' ∧ H <+: H' ∧ Lent 3 entC H' w es [markE, markE] := by
  refine call_mem fit mixed Try.func32 rfl rfl rfl (by kernel_rfl) fun hM => ?_
  have hlen := hx.len T66 rfl
  obtain ⟨u, H1, c1, m1⟩ := copyEnts_ H v es hx (by omega)
  refine goM ?_
  refine l_callG c1 ?_
  replace hM := hM.call1 m1
  clear c1 m1
  refine goM ?_
  refine l_sliceM entC [markE, markE] [.int .i64 0, .str ByteArray.empty, .int .i64 77777, .int .i64 0, .str ByteArray.empty, .int .i64 77777] T66 rfl T86 rfl (cells_ents [markE, markE]) (by decide) fun e1 H3 hM => ?_
  refine goM ?_
  refine l_appM (hM.sl .here) (xs := es) (hh := .there .here) (hb := by simp only [List.length_cons, List.length_nil]; omega) fun a H4 hM => ?_
  rcases hM.get (.there .here) with ⟨_, h⟩ | ⟨b, ho⟩
  · simp at h
  obtain ⟨r, hr, hlent⟩ := ho.lend
  refine goM ?_
  exact end_1 (by first | exact .inl rfl | exact .inr rfl) ⟨hM.pre, hlent⟩

theorem keptEnts_ (H : Heap) (u v : V) (xs : List Ent) (hu : Lent 3 entC H u xs [markE, markE]) (hv : Sl 3 entC H v xs) (lx : xs.length ≤ 2 ^ 42) : Call Try.prog 45 [u, v] H (.bool true) H := by
  refine call_pure fit mixed Try.func45 rfl rfl rfl (by kernel_rfl) rfl fun hM => ?_
  have hlx := hu.sl.len T66 rfl
  have hly := hv.len T66 rfl
  have hw : IntKind.i64.wrap ((xs.length : Int) + 2) = (xs.length : Int) + 2 := wrap_i64 (by omega) (by omega)
  have hw1 : IntKind.i64.wrap ((xs.length : Int) + 1) = (xs.length : Int) + 1 := wrap_i64 (by omega) (by omega)
  obtain ⟨f, hf, hfs⟩ := hu.full (n := (xs.length : Int) + 2) (by simp)
  have hsame := sameEnts_ H u v xs xs hu.sl hv (by omega)
  rw [entsEq_self] at hsame
  obtain ⟨b1, o1, hi1, ho1, _⟩ := ent_at hfs (k := xs.length) (e := markE) (by simp)
  obtain ⟨b2, o2, hi2, ho2, _⟩ := ent_at hfs (k := xs.length + 1) (e := markE) (by simp)
  simp only [Int.natCast_add, Int.cast_ofNat_Int] at hi2
  have he := eq_ent markE markE
  rw [entEq_iff.2 rfl] at he
  clear hfs lx hu hv
  refine goM ?_
  refine l_callG hsame ?_
  repeat (first | (refine l_gd ?_; refine l_onG ?_; refine l_step (s_bin eLk eLk he) ?_) | (refine l_pl ?_; refine l_goM ?_) | (refine d_pl ?_; refine d_goM ?_) | (refine l_gd ?_; first | refine l_onG ?_ | refine l_offG ?_ | refine l_offU ?_) | (refine d_gd ?_; first | refine d_onG ?_ | refine d_offG ?_ | refine d_offU ?_) | (refine cond_pl ?_; first | refine cond_yes ?_ | refine cond_no ?_) | refine wq_seq ?_ | refine wq_line ?_ | refine wq_draw (by decide +kernel) ?_ | refine wq_block ?_ | refine l_nil ?_ | refine d_nil ?_ | refine wq_skip ?_ | refine wq_ret ?_ | refine wq_exit ?_ | refine th_normal ?_ | refine th_ret ?_ | refine th_exit ?_ | refine bk_normal ?_ | refine bk_ret ?_ | refine bk_exit ?_ | refine bk_other rfl ?_)
  exact end_1 (by first | exact .inl rfl | exact .inr rfl) ⟨rfl, List.prefix_refl _⟩

theorem spoilEnts_ (B H : Heap) (L : List Res) (f : Res → List Res) (v : V) (xs : List Ent) (hM : Mem B H L) (hh : Has L (.own 3 entC v xs) f) (lx : xs.length ≤ 2 ^ 42) : ∃ w H', Call Try.prog 44 [v] H w H' ∧ w = .tup [] ∧ ∃ ys : List Ent, ys.length = xs.length ∧ Mem B H' (f (.own 3 entC v ys)) := by
  refine call_turn fit mixed hM Try.func44 rfl rfl rfl (by kernel_rfl) fun _ => ?_
  obtain ⟨n, hn⟩ : ∃ n, xs.length = n := ⟨_, rfl⟩
  refine goM ?_
  refine wq_loop (fun c ρ hp => ∃ (k : Nat) (ys : List Ent) (L' : List Res), k ≤ n ∧ c = n - k ∧ ys.length = n ∧ Mem B hp L' ∧ Has L' (.own 3 entC v ys) f ∧ ρ 0 = v ∧ ρ 2 = .int .i64 (k : Int)) ⟨0, xs, L, Nat.zero_le _, rfl, hn, hM, hh, rfl, rfl⟩ ?_
  clear hM hh
  rintro _ ρ hp ⟨k, ys, L', hk, rfl, hys, hM, hh, h0, h2⟩
  have hlen := (hM.sl hh).len T66 rfl
  rw [hys] at hlen
  refine goM ?_
  refine cond_go (fun hb => ?_) (fun hb => ?_)
  · have hk' : k < n := by simpa using hb
    clear hb
    obtain ⟨e, he⟩ : ∃ e, ys[k]? = some e := ⟨ys[k]'(by omega), by simp⟩
    obtain ⟨b, o, hi, _, _, _, lo2⟩ := ent_at (hM.sl hh) he
    obtain ⟨b', hix, hput⟩ := hM.elemAt hh T66 rfl T86 rfl he 2 T3 (by decide)
    rw [hi] at hix
    cases hix
    obtain ⟨z, hz⟩ : ∃ z, IntKind.i64.wrap ((BitVec.ofInt IntKind.i64.bits e.n ^^^ BitVec.ofInt IntKind.i64.bits 90).toNat : Int) = z := ⟨_, rfl⟩
    obtain ⟨H', hst, hM'⟩ := hput (.int .i64 z) ⟨e.id, e.tx, z⟩ rfl rfl (fun cs hl hR => by rw [hR]; rfl)
    have hw := wrap_succ (n := k) (by omega)
    clear he hput
    refine goM ?_
    refine l_stM hst ?_
    refine goM ?_
    exact ⟨n - (k + 1), by omega, k + 1, _, _, hk', rfl, by simpa using hys, hM', hh.again _, by simp [put_app, put_none, *]⟩
  · clear hb
    refine goM ?_
    refine end_normal (by simp only [resRf, resRs, resR]; first | done | rfl) ⟨rfl, ys, by omega, ?_⟩
    rw [hh.same]; exact hM

theorem rd_ents {K : Heap} {D : Type} {v : V} {d : DataW D} (h : RdV T K 66 v d) : ∃ es, Sl 3 entC K v es ∧ es.length * 32 ≤ reachBytes :=
  (h.plain T66 rfl).isSlice T66 rfl T86 fun vs x hr => by
    obtain ⟨hl, hf⟩ := hr.field T86 rfl
    replace hl : vs.length = 3 := hl
    obtain ⟨x0, h0⟩ := hf 0 _ _ rfl T3
    obtain ⟨x1, h1⟩ := hf 1 _ _ rfl T9
    obtain ⟨x2, h2⟩ := hf 2 _ _ rfl T3
    obtain ⟨n0, e0, _⟩ := h0.isInt T3 rfl
    obtain ⟨s, e1, _⟩ := h1.isStr T9 rfl
    obtain ⟨n2, e2, _⟩ := h2.isInt T3 rfl
    match vs, hl, e0, e1, e2 with
    | [a, b, c], _, e0, e1, e2 =>
      simp at e0 e1 e2
      subst e0; subst e1; subst e2
      exact ⟨⟨n0, s, n2⟩, rfl⟩
theorem rd_str {K : Heap} {D : Type} {v : V} {d : DataW D} (h : RdV T K 9 v d) : ∃ s, v = .str s ∧ s.size ≤ reachBytes := by
  obtain ⟨s, h1, h2⟩ := (h.plain T9 rfl).isStr T9 rfl
  simp at h1
  exact ⟨s, h1, h2⟩
theorem putS_len (es : List Ent) (s : ByteArray) : (putS es s).1.length ≤ 65 := by
  unfold putS
  split
  · simp
  · rename_i h
    have hm : storeMay es = true := by
      cases hq : storeMay es with
      | true => rfl
      | false => rw [hq] at h; simp at h
    have := (store_of hm).len
    split
    · split
      · simp
      · simp only [bump]; split <;> (try simp) <;> omega
    · split
      · simp
      · simp only [List.length_append, List.length_cons, List.length_take, List.length_drop]; omega
theorem dropS_len (es : List Ent) (id : Int) : (dropS es id).1.length ≤ 65 := by
  unfold dropS
  split
  · simp
  · rename_i h
    have hm : storeMay es = true := by
      cases hq : storeMay es with
      | true => rfl
      | false => exact absurd hq h
    have := (store_of hm).len
    split
    · simp
    · split
      · simp
      · simp only [bump]; split <;> (try simp) <;> omega
theorem sweepS_len (es : List Ent) : (sweepS es).1.length ≤ 65 := by
  unfold sweepS
  split
  · simp
  · rename_i h
    have hm : storeMay es = true := by
      cases hq : storeMay es with
      | true => rfl
      | false => exact absurd hq h
    have := (store_of hm).len
    have := List.length_filter_le (fun e : Ent => decide (e.n ≠ 0)) es
    simp only
    omega
end Go.Proofs.Ytekifjeckbndiaa.VM

/- Chapter 15: what every program answers; the statement Stores. -/
namespace Go.Proofs.Ytekifjeckbndiaa.VM
open Go
set_option linter.unusedVariables false
set_option linter.unusedSimpArgs false
attribute [local irreducible] wq wqL wqD wqE wqO Th Bk EndR
set_option maxHeartbeats 8000000

abbrev txX : ByteArray := ⟨#[120]⟩
abbrev txY : ByteArray := ⟨#[121]⟩
abbrev txZ : ByteArray := ⟨#[122]⟩
abbrev st0 : List Ent := [⟨0, txX, 1⟩, ⟨2, txY, 0⟩]
abbrev st1 : List Ent := [⟨0, txX, 1⟩, ⟨1, txZ, 1⟩, ⟨2, txY, 0⟩]
abbrev st2 : List Ent := [⟨0, txX, 1⟩, ⟨1, txZ, 1⟩, ⟨2, txY, 1⟩]
abbrev st3 : List Ent := [⟨0, txX, 1⟩, ⟨1, txZ, 0⟩, ⟨2, txY, 1⟩]
abbrev st4 : List Ent := [⟨0, txX, 1⟩, ⟨2, txY, 1⟩]
theorem aw1 : putS st0 txZ = (st1, 1, 0) := by rfl
theorem aw2 : putS st1 txY = (st2, 2, 0) := by rfl
theorem aw3 : dropS st2 1 = (st3, 0) := by rfl
theorem aw4 : getS st3 1 = (txZ, true) := by rfl
theorem aw5 : getS st3 9 = (⟨#[]⟩, false) := by rfl
theorem aw6 : sweepS st3 = (st4, 0) := by rfl
theorem aw7 : dropS st3 1 = ([], 1502) := by rfl
theorem aw8 : putS st1 ⟨#[]⟩ = ([], 0, 1500) := by rfl
theorem aw9 : storeMay st2 = true := by rfl
theorem awake15_ (K : Heap) : Call Try.prog 46 [] K (.bool true) K := by
  have hzz : (ByteArray.toList ⟨#[122]⟩ == ByteArray.toList ⟨#[122]⟩) = true := by simp
  refine call_pure fit mixed Try.func46 rfl rfl rfl (by kernel_rfl) rfl fun hM => ?_
  refine goM ?_
  refine l_sliceM entC st0 [.int .i64 0, .str txX, .int .i64 1, .int .i64 2, .str txY, .int .i64 0] T66 rfl T86 rfl (cells_ents st0) (by decide) fun e1 H1 hM => ?_
  obtain ⟨_, H2, c1, u1, rfl, m1⟩ := put15_ H1 e1 st0 txZ (hM.sl .here) (by decide)
  rw [aw1] at c1 m1
  refine l_callG c1 ?_
  replace hM := hM.call1 m1
  clear c1 m1
  refine goM ?_
  obtain ⟨_, H3, c1, u2, rfl, m1⟩ := put15_ H2 u1 st1 txY (hM.sl .here) (by decide)
  rw [aw2] at c1 m1
  refine l_callG c1 ?_
  replace hM := hM.call1 m1
  clear c1 m1
  refine goM ?_
  obtain ⟨_, H4, c1, u3, rfl, m1⟩ := drop15_ H3 u2 st2 1 (hM.sl .here) (by decide)
  rw [aw3] at c1 m1
  refine l_callG c1 ?_
  replace hM := hM.call1 m1
  clear c1 m1
  refine goM ?_
  have c1 := get15_ H4 u3 st3 1 (hM.sl .here) (by decide)
  have c2 := get15_ H4 u3 st3 9 (hM.sl .here) (by decide)
  rw [aw4] at c1
  rw [aw5] at c2
  refine l_callG c1 ?_
  refine goM ?_
  refine l_callG c2 ?_
  clear c1 c2
  refine goM ?_
  obtain ⟨_, H5, c1, u4, rfl, m1⟩ := sweep15_ H4 u3 st3 (hM.sl .here) (by decide)
  rw [aw6] at c1 m1
  refine l_callG c1 ?_
  replace hM := hM.call1 m1
  clear c1 m1
  refine goM ?_
  obtain ⟨_, H6, c1, u5, rfl, m1⟩ := drop15_ H5 u3 st3 1 (hM.sl (.there .here)) (by decide)
  rw [aw7] at c1 m1
  refine l_callG c1 ?_
  replace hM := hM.call1 m1
  clear c1 m1
  refine goM ?_
  obtain ⟨_, H7, c1, u6, rfl, m1⟩ := put15_ H6 u1 st1 ⟨#[]⟩ (hM.sl (v := u1) (xs := st1) (by (repeat (first | exact Has.here | apply Has.there)))) (by decide)
  rw [aw8] at c1 m1
  refine l_callG c1 ?_
  replace hM := hM.call1 m1
  clear c1 m1
  refine goM ?_
  refine l_callG (num_ _ _) ?_
  refine goM ?_
  refine l_callG (num_ _ _) ?_
  refine goM ?_
  refine l_sliceM entC st2 [.int .i64 0, .str txX, .int .i64 1, .int .i64 1, .str txZ, .int .i64 1, .int .i64 2, .str txY, .int .i64 1] T66 rfl T86 rfl (cells_ents st2) (by decide) fun e2 H8 hM => ?_
  have c1 := sameEnts_ H8 u2 e2 st2 st2 (hM.sl (v := u2) (xs := st2) (by (repeat (first | exact Has.here | apply Has.there)))) (hM.sl .here) (by decide)
  rw [entsEq_self] at c1
  refine goM ?_
  refine l_callG c1 ?_
  clear c1
  refine goM ?_
  refine l_callG (num_ _ _) ?_
  refine goM ?_
  refine l_sliceM entC st4 [.int .i64 0, .str txX, .int .i64 1, .int .i64 2, .str txY, .int .i64 1] T66 rfl T86 rfl (cells_ents st4) (by decide) fun e3 H9 hM => ?_
  have c1 := sameEnts_ H9 u4 e3 st4 st4 (hM.sl (v := u4) (xs := st4) (by (repeat (first | exact Has.here | apply Has.there)))) (hM.sl .here) (by decide)
  rw [entsEq_self] at c1
  refine goM ?_
  refine l_callG c1 ?_
  clear c1
  refine goM ?_
  refine l_callG (num_ _ _) ?_
  refine goM ?_
  refine l_callG (num_ _ _) ?_
  refine goM ?_
  refine l_callG (num_ _ _) ?_
  refine goM ?_
  have c1 := storeMay_ H9 u2 st2 (hM.sl (v := u2) (xs := st2) (by (repeat (first | exact Has.here | apply Has.there)))) (by decide)
  rw [aw9] at c1
  refine l_callG c1 ?_
  clear c1
  refine goM ?_
  exact end_1 (by first | exact .inl rfl | exact .inr rfl) ⟨rfl, hM.pre⟩

theorem law_stores {D : Type} (K : Heap) (vs : List V) (ds : List (DataW D)) (ro : Ro K) (h : RdAll T K [66, 9, 3] vs ds) : ∃ K', Call Try.prog 8 vs K (.bool true) K' := by
  obtain ⟨v1, vs, d1, ds, rfl, rfl, hv1, h⟩ := rdAll_cons h
  obtain ⟨v2, vs, d2, ds, rfl, rfl, hv2, h⟩ := rdAll_cons h
  obtain ⟨v3, vs, d3, ds, rfl, rfl, hv3, h⟩ := rdAll_cons h
  obtain ⟨rfl, rfl⟩ := rdAll_nil h
  obtain ⟨es, hx, lx⟩ := rd_ents hv1
  obtain ⟨s, rfl, ls⟩ := rd_str hv2
  obtain ⟨id, rfl, _⟩ := hv3.int T3 rfl
  replace lx : es.length * 32 ≤ 140737488351232 := lx
  clear hv1 hv2 hv3 h
  have l1 := putS_len es s
  have l2 := dropS_len es id
  have l3 := sweepS_len es
  refine ⟨K, ?_⟩
  refine call_pure fit mixed Try.func8 rfl rfl rfl (by kernel_rfl) rfl fun hM => ?_
  obtain ⟨x, H1, c1, p1, hlent⟩ := lendEnts_ K v1 es hx (by omega)
  have hM : Mem H1 H1 [] := Mem.start H1
  refine goM ?_
  refine l_callG c1 ?_
  clear c1
  have hx1 := hx.mono p1
  have hxl := hlent.sl
  refine goM ?_
  obtain ⟨_, H2, c1, a, rfl, m1⟩ := put15_ H1 x es s hxl (by omega)
  refine l_callG c1 ?_
  replace hM := hM.call1 m1
  clear c1 m1
  refine goM ?_
  obtain ⟨_, H3, c1, b, rfl, m1⟩ := refPut15_ H2 v1 es s (hx1.mono hM.pre) (by omega)
  refine l_callG c1 ?_
  replace hM := hM.call1 m1
  clear c1 m1
  refine goM ?_
  obtain ⟨_, H4, c1, c, rfl, m1⟩ := drop15_ H3 x es id (hxl.mono hM.pre) (by omega)
  refine l_callG c1 ?_
  replace hM := hM.call1 m1
  clear c1 m1
  refine goM ?_
  obtain ⟨_, H5, c1, d, rfl, m1⟩ := refDrop15_ H4 v1 es id (hx1.mono hM.pre) (by omega)
  refine l_callG c1 ?_
  replace hM := hM.call1 m1
  clear c1 m1
  refine goM ?_
  refine l_callG (get15_ H5 x es id (hxl.mono hM.pre) (by omega)) ?_
  refine goM ?_
  refine l_callG (refGet15_ H5 v1 es id (hx1.mono hM.pre) (by omega)) ?_
  refine goM ?_
  obtain ⟨_, H6, c1, p, rfl, m1⟩ := sweep15_ H5 x es (hxl.mono hM.pre) (by omega)
  refine l_callG c1 ?_
  replace hM := hM.call1 m1
  clear c1 m1
  refine goM ?_
  obtain ⟨_, H7, c1, q, rfl, m1⟩ := refSweep15_ H6 v1 es (hx1.mono hM.pre) (by omega)
  refine l_callG c1 ?_
  replace hM := hM.call1 m1
  clear c1 m1
  obtain ⟨pe, hpe⟩ : ∃ o, putS es s = o := ⟨_, rfl⟩
  obtain ⟨de, hde⟩ : ∃ o, dropS es id = o := ⟨_, rfl⟩
  obtain ⟨ge, hge⟩ : ∃ o, getS es id = o := ⟨_, rfl⟩
  obtain ⟨se, hse⟩ : ∃ o, sweepS es = o := ⟨_, rfl⟩
  rw [hpe, hde, hse] at hM
  rw [hpe] at l1
  rw [hde] at l2
  rw [hse] at l3
  rw [hpe, hde, hge, hse]
  clear hpe hde hge hse
  obtain ⟨mb, hmb⟩ : ∃ o, storeMay es = o := ⟨_, rfl⟩
  have c8 := storeMay_ H7 x es (hxl.mono hM.pre) (by omega)
  have c9 := refStoreMay_ H7 v1 es (hx1.mono hM.pre) (by omega)
  rw [hmb] at c8 c9
  clear hmb
  have c1 := sameEnts_ H7 a b pe.1 pe.1 (hM.sl (v := a) (xs := pe.1) (by (repeat (first | exact Has.here | apply Has.there)))) (hM.sl (v := b) (xs := pe.1) (by (repeat (first | exact Has.here | apply Has.there)))) (by omega)
  have c2 := sameEnts_ H7 c d de.1 de.1 (hM.sl (v := c) (xs := de.1) (by (repeat (first | exact Has.here | apply Has.there)))) (hM.sl (v := d) (xs := de.1) (by (repeat (first | exact Has.here | apply Has.there)))) (by omega)
  have c3 := sameEnts_ H7 p q se.1 se.1 (hM.sl (v := p) (xs := se.1) (by (repeat (first | exact Has.here | apply Has.there)))) (hM.sl (v := q) (xs := se.1) (by (repeat (first | exact Has.here | apply Has.there)))) (by omega)
  rw [entsEq_self] at c1 c2 c3
  have hgg : (ge.1.toList == ge.1.toList) = true := by simp
  have hne : ∀ b : Bool, vbin T .neq 4 (.bool b) (.bool b) = some (.bool false) := fun b => by
    simp only [vbin, T4]
    cases b <;> rfl
  have hn1 := hne ge.2
  have hn2 := hne mb
  refine goM ?_
  refine l_callG c1 ?_
  refine goM ?_
  refine l_callG (num_ _ _) ?_
  refine goM ?_
  refine l_callG c2 ?_
  refine goM ?_
  refine l_callG (num_ _ _) ?_
  repeat (first | (refine l_gd ?_; refine l_onG ?_; refine l_step (s_bin eLk eLk hn1) ?_) | (refine l_pl ?_; refine l_goM ?_) | (refine d_pl ?_; refine d_goM ?_) | (refine l_gd ?_; first | refine l_onG ?_ | refine l_offG ?_ | refine l_offU ?_) | (refine d_gd ?_; first | refine d_onG ?_ | refine d_offG ?_ | refine d_offU ?_) | (refine cond_pl ?_; first | refine cond_yes ?_ | refine cond_no ?_) | refine wq_seq ?_ | refine wq_line ?_ | refine wq_draw (by decide +kernel) ?_ | refine wq_block ?_ | refine l_nil ?_ | refine d_nil ?_ | refine wq_skip ?_ | refine wq_ret ?_ | refine wq_exit ?_ | refine th_normal ?_ | refine th_ret ?_ | refine th_exit ?_ | refine bk_normal ?_ | refine bk_ret ?_ | refine bk_exit ?_ | refine bk_other rfl ?_)
  refine l_callG c3 ?_
  refine goM ?_
  refine l_callG (num_ _ _) ?_
  refine goM ?_
  refine l_callG c8 ?_
  refine goM ?_
  refine l_callG c9 ?_
  repeat (first | (refine l_gd ?_; refine l_onG ?_; refine l_step (s_bin eLk eLk hn2) ?_) | (refine l_pl ?_; refine l_goM ?_) | (refine d_pl ?_; refine d_goM ?_) | (refine l_gd ?_; first | refine l_onG ?_ | refine l_offG ?_ | refine l_offU ?_) | (refine d_gd ?_; first | refine d_onG ?_ | refine d_offG ?_ | refine d_offU ?_) | (refine cond_pl ?_; first | refine cond_yes ?_ | refine cond_no ?_) | refine wq_seq ?_ | refine wq_line ?_ | refine wq_draw (by decide +kernel) ?_ | refine wq_block ?_ | refine l_nil ?_ | refine d_nil ?_ | refine wq_skip ?_ | refine wq_ret ?_ | refine wq_exit ?_ | refine th_normal ?_ | refine th_ret ?_ | refine th_exit ?_ | refine bk_normal ?_ | refine bk_ret ?_ | refine bk_exit ?_ | refine bk_other rfl ?_)
  clear c1 c2 c3 c8 c9
  obtain ⟨_, H8, c1, rfl, ys1, hy1, hM⟩ := spoilEnts_ H1 H7 _ _ a pe.1 hM (by (repeat (first | exact Has.here | apply Has.there))) (by omega)
  refine l_callG c1 ?_
  clear c1
  refine goM ?_
  obtain ⟨_, H9, c1, rfl, ys2, hy2, hM⟩ := spoilEnts_ H1 H8 _ _ c de.1 hM (by (repeat (first | exact Has.here | apply Has.there))) (by omega)
  refine l_callG c1 ?_
  clear c1
  refine goM ?_
  obtain ⟨_, H10, c1, rfl, ys3, hy3, hM⟩ := spoilEnts_ H1 H9 _ _ p se.1 hM (by (repeat (first | exact Has.here | apply Has.there))) (by omega)
  refine l_callG c1 ?_
  clear c1
  refine goM ?_
  refine l_callG (keptEnts_ H10 x v1 es (hlent.pre hM.pre) (hx1.mono hM.pre) (by omega)) ?_
  refine goM ?_
  refine l_callG (awake15_ _) ?_
  refine goM ?_
  exact end_1 (by first | exact .inl rfl | exact .inr rfl) ⟨rfl, p1.trans hM.pre⟩
end Go.Proofs.Ytekifjeckbndiaa.VM
