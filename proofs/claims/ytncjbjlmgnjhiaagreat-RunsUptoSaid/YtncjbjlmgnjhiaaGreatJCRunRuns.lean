import Derived.Test.YtncjbjlmgnjhiaaGreatJCRunAll
set_option linter.unusedVariables false
set_option linter.unusedSimpArgs false
set_option maxHeartbeats 8000000
namespace Go.Proofs.YtncjbjlmgnjhiaaGreat.VM
open Go
theorem wzG {n : Int} (h : -9223372036854775808 ≤ n ∧ n ≤ 9223372036854775807 := by omega) : IntKind.i64.wrap n = n := wrap_i64 h.1 h.2
theorem dfG {p : Prop} [Decidable p] (h : ¬p := by omega) : decide p = false := decide_eq_false h
theorem dtG {p : Prop} [Decidable p] (h : p := by omega) : decide p = true := decide_eq_true h
section
variable {T : Tab} {α : Type} {D : Type}
theorem Un {K : Heap} {t : Nat} {ts : List Nat} {vs : List V} {ds : List (DataW D)} (h : RdAll T K (t :: ts) vs ds) : ∃ v vs' d ds', vs = v :: vs' ∧ ds = d :: ds' ∧ RdV T K t v d ∧ RdAll T K ts vs' ds' := by
 match vs, ds, h with
 | v :: vs', d :: ds', ⟨h1, h2⟩ => exact ⟨v, vs', d, ds', rfl, rfl, h1, h2⟩
theorem XQ {K : Heap} {vs : List V} {ds : List (DataW D)} (h : RdAll T K [] vs ds) : vs = [] ∧ ds = [] := by
 match vs, ds, h with
 | [], [], _ => exact ⟨rfl, rfl⟩
end
section
variable {P : Program} {T : Tab} {α β : Type}
theorem iV {c : Code} {id : Nat} {n : Rho → Heap → Prop} {Q : Exit → Rho → Heap → Prop} {ρ : Rho} {h : Heap} (I : Rho → Heap → Prop) (h1 : wq P T c (Bk id (Th I fun _ _ _ => False)) ρ h) (h2 : ∀ ρ h, I ρ h → n ρ h) : wq P T c (Bk id (Th n Q)) ρ h :=
 Bt c (fun x ρ h hx => by
  cases x with
  | normal => exact AS (AR (h2 ρ h hx))
  | exit id' =>
   simp only [Bk] at hx ⊢
   split at hx
   ·rename_i e
    rw [if_pos e]; exact AR (h2 ρ h hx)
   ·exact hx.elim
  | _ => exact hx.elim) h1
end
attribute [local irreducible] wq wqL wqD wqE wqO Th Bk EndR
theorem mE {H : Heap} {w : V} {ys : List Int} (h : Sl 1 AH H w ys) : ∃ news, newsOf T (T 3).get! 27 w H = some (ys.length, news) ∧ Cells 1 AH news ys := h.news T27 rfl (ie := (T 3).get!) rfl
theorem mD (H : Heap) (w : V) (ys : List Int) (h : Sl 1 AH H w ys) (hl : ys.length * 8 ≤ 2 ^ 47) :
  ∃ news v H', newsOf T (T 3).get! 27 w (H ++ [.row [] true]) = some (ys.length, news) ∧ appendV (T 3).get! (.slc H.length 0 0 0 true 1) ys.length news (H ++ [.row [] true]) = some (v, H') ∧ BR 1 AH H H' v ys ∧ ∃ b, v.blk = some b ∧ H.length ≤ b := by
 obtain ⟨news, hn, hc⟩ := mE (h.mono (List.prefix_append H [.row [] true]))
 obtain ⟨u, b, H', ha, ho, hf, hb⟩ := Ka (ie := (T 3).get!) (JP (t := true) H Cells.nil) rfl hc ⟨by show (0 + ys.length) * 8 ≤ _; omega, by show 0 + ys.length ≤ _; omega⟩
 have hb' : H.length ≤ b := by simp at hb; omega
 refine ⟨news, u, H', hn, ha, ⟨hf.pre (List.prefix_append _ _) (Nat.le_refl _), .inr ⟨b, hb', ho⟩⟩, b, ?_, hb'⟩
 obtain ⟨cap, t, cs, rfl, _⟩ := ho
 rfl
theorem lX (H : Heap) (v : V) (es : List Int) (hes : Sl 1 AH H v es) (hl : es.length * 8 ≤ 2 ^ 47) : ∃ u H', Call Tryz.prog 44 [v] H u H' ∧ BR 1 AH H H' u es ∧ ∃ b, u.blk = some b ∧ H.length ≤ b := by
 suffices h : ∃ u H', (BR 1 AH H H' u es ∧ ∃ b, u.blk = some b ∧ H.length ≤ b) ∧ Call Tryz.prog 44 [v] H u H' by
  obtain ⟨u, H', h1, h2⟩ := h
  exact ⟨u, H', h2, h1⟩
 refine CY fit mixed Tryz.func44 rfl rfl rfl (by kernel_rfl) ?_
 obtain ⟨news, u, H', n1, a1, hm⟩ := mD H v es hes hl
 clear hes hl
 refine goW ?_
 refine EG n1 a1 ?_
 refine goW ?_
 refine AL (by simp only [resRf, resRs, resR]; first | done | rfl) hm
theorem lZ (H : Heap) (u v : V) (xs ys : List Int) (hu : Tt 1 AH H u xs [-7777, -8888]) (hv : Sl 1 AH H v ys) (lx : xs.length ≤ 2 ^ 47) : Call Tryz.prog 31 [u, v] H (.bool (decide (xs = ys))) H := by
 refine AJ fit mixed Tryz.func31 rfl rfl rfl (by kernel_rfl) rfl ?_
 have hlx := hu.sl.len T27 rfl
 have hly := hv.len T27 rfl
 have hw : IntKind.i64.wrap ((xs.length : Int) + 2) = (xs.length : Int) + 2 := wzG
 have hw1 : IntKind.i64.wrap ((xs.length : Int) + 1) = (xs.length : Int) + 1 := wzG
 obtain ⟨f, hf, hfs⟩ := hu.full (n := (xs.length : Int) + 2) (by simp)
 have hsame := MX H u v xs ys hu.sl hv lx
 obtain ⟨b1, o1, _, hi1, rfl, _, hl1, _⟩ := hfs.get T27 rfl T3 rfl (k := xs.length) (x := -7777) (by simp)
 obtain ⟨b2, o2, _, hi2, rfl, _, hl2, _⟩ := hfs.get T27 rfl T3 rfl (k := xs.length + 1) (x := -8888) (by simp)
 have ho1 := AF T3 rfl hl1
 have ho2 := AF T3 rfl hl2
 simp only [Int.natCast_add, Int.cast_ofNat_Int] at hi2
 clear hl1 hl2 hfs lx hu hv
 refine goW ?_
 refine AA hsame ?_
 refine goW ?_
 first | refine Br (fun hb => ?_) (fun hb => ?_) | refine Bp (fun hb => ?_) (fun hb => ?_)
 ·have he : xs = ys := of_decide_eq_true hb
  rw [← he] at hly
  clear he
  refine goW ?_
  refine Ai ?_; simp [AD, AB, *]
 ·refine goW ?_
  refine Ai ?_; simp [AD, AB, *]
theorem lF (B H : Heap) (L : List Res) (f : Res → List Res) (v : V) (xs : List Int) (hM : Mem B H L) (hh : Has L (.own 1 AH v xs) f) (lx : xs.length ≤ 2 ^ 47) : ∃ w H', Call Tryz.prog 121 [v] H w H' ∧ w = .tup [] ∧ ∃ ys : List Int, ys.length = xs.length ∧ Mem B H' (f (.own 1 AH v ys)) := by
 refine CO fit mixed hM Tryz.func121 rfl rfl rfl (by kernel_rfl) fun _ => ?_
 obtain ⟨n, hn⟩ : ∃ n, xs.length = n := ⟨_, rfl⟩
 refine goM ?_
 refine AT (fun c ρ hp => ∃ (k : Nat) (ys : List Int) (L' : List Res), k ≤ n ∧ c = n - k ∧ ys.length = n ∧ Mem B hp L' ∧ Has L' (.own 1 AH v ys) f ∧ ρ 0 = v ∧ ρ 2 = .int .i64 (k : Nat)) ⟨0, xs, L, Nat.zero_le _, rfl, hn, hM, hh, rfl, rfl⟩ ?_
 clear hM hh
 rintro _ ρ hp ⟨k, ys, L', hk, rfl, hys, hM, hh, h0, h2⟩
 have hlen := (hM.sl hh).len T27 rfl
 rw [hys] at hlen
 refine goM ?_
 refine AE (fun hb => ?_) (fun hb => ?_)
 ·have hk' : k < n := by simpa using hb
  clear hb
  obtain ⟨x, hxk⟩ : ∃ e, ys[k]? = some e := ⟨ys[k]'(by omega), by simp⟩
  obtain ⟨b, hi, hput⟩ := hM.elem hh T27 rfl T3 rfl (k := k) (by omega)
  obtain ⟨b', o', _, hi', rfl, _, hlo, _⟩ := (hM.sl hh).get T27 rfl T3 rfl hxk
  rw [hi] at hi'
  cases hi'
  have ho := AF T3 rfl hlo
  obtain ⟨H', hst, hM'⟩ := hput (.int .i64 (IntKind.i64.wrap (-9 - x))) _ rfl rfl rfl
  have hw := AG (n := k) (by omega)
  clear hxk hlo hput
  refine goM ?_
  refine Dc hst ?_
  refine goM ?_
  exact ⟨n - (k + 1), by omega, k + 1, _, _, hk', rfl, by simpa using hys, hM', hh.again _, by simp [AD, AB, *]⟩
 ·clear hb
  refine goM ?_
  refine Bu (by simp only [resRf, resRs, resR]; first | done | rfl) ⟨rfl, ys, by omega, ?_⟩
  rw [hh.same]; exact hM
theorem lJ (B H : Heap) (L : List Res) (w v : V) (k : Chk) (hM : Mem B H (.own 1 AH w k.ws :: .own 1 AH v k.vs :: L)) (hf : k.Fit) : ∃ u H', Call Tryz.prog 64 [.agg (kC w v k)] H u H' ∧ u = .tup [] ∧ Mem B H' L := by
 have l1 := hf.ws
 have l2 := hf.vs
 have s1 := (hM.sl .here).cells
 have s2 := (hM.sl (.there .here)).cells
 refine CO fit mixed hM Tryz.func64 rfl rfl rfl (by kernel_rfl) fun _ => ?_
 refine AO (AK ?_)
 refine Ax T82 fun b1 H1 hM => ?_
 refine goM ?_
 obtain ⟨_, H2, c1, rfl, ys, hys, hM⟩ := lF B H1 _ _ w k.ws hM (.there .here) (by omega)
 refine AA c1 ?_
 refine goM ?_
 obtain ⟨_, H3, c2, rfl, zs, hzs, hM⟩ := lF B H2 _ _ v k.vs hM (.there (.there .here)) (by omega)
 refine AA c2 ?_
 refine goM ?_
 exact Bu (by simp only [resRf, resRs, resR]; first | done | rfl) ⟨rfl, hM.Ea⟩
theorem mH (a : ByteArray) : vbin T .neq 9 (.str a) (.str a) = some (.bool false) := by simp [vbin, strBin]
theorem lT (B H : Heap) (L : List Res) (f : Res → List Res) (v : V) (xs : List Ent) (hM : Mem B H L) (hh : Has L (.own 3 BE v xs) f) (lx : xs.length ≤ 2 ^ 42) : ∃ w H', Call Tryz.prog 66 [v] H w H' ∧ w = .tup [] ∧ ∃ ys : List Ent, ys.length = xs.length ∧ Mem B H' (f (.own 3 BE v ys)) := by
 refine CO fit mixed hM Tryz.func66 rfl rfl rfl (by kernel_rfl) fun _ => ?_
 obtain ⟨n, hn⟩ : ∃ n, xs.length = n := ⟨_, rfl⟩
 refine goM ?_
 refine AT (fun c ρ hp => ∃ (k : Nat) (ys : List Ent) (L' : List Res), k ≤ n ∧ c = n - k ∧ ys.length = n ∧ Mem B hp L' ∧ Has L' (.own 3 BE v ys) f ∧ ρ 0 = v ∧ ρ 2 = .int .i64 (k : Int)) ⟨0, xs, L, Nat.zero_le _, rfl, hn, hM, hh, rfl, rfl⟩ ?_
 clear hM hh
 rintro _ ρ hp ⟨k, ys, L', hk, rfl, hys, hM, hh, h0, h2⟩
 have hlen := (hM.sl hh).len T30 rfl
 rw [hys] at hlen
 refine goM ?_
 refine AE (fun hb => ?_) (fun hb => ?_)
 ·have hk' : k < n := by simpa using hb
  clear hb
  obtain ⟨e, he⟩ : ∃ e, ys[k]? = some e := ⟨ys[k]'(by omega), by simp⟩
  obtain ⟨b, o, hi, _, _, _, lo2⟩ := CV (hM.sl hh) he
  obtain ⟨b', hix, hput⟩ := hM.elemAt hh T30 rfl T63 rfl he 2 T3 (by decide)
  rw [hi] at hix
  cases hix
  obtain ⟨z, hz⟩ : ∃ z, IntKind.i64.wrap ((BitVec.ofInt IntKind.i64.bits e.n ^^^ BitVec.ofInt IntKind.i64.bits 90).toNat : Int) = z := ⟨_, rfl⟩
  obtain ⟨H', hst, hM'⟩ := hput (.int .i64 z) ⟨e.id, e.tx, z⟩ rfl rfl (fun cs hl hR => by rw [hR]; rfl)
  have hw := AG (n := k) (by omega)
  clear he hput
  refine goM ?_
  refine Dc hst ?_
  refine goM ?_
  exact ⟨n - (k + 1), by omega, k + 1, _, _, hk', rfl, by simpa using hys, hM', hh.again _, by simp [AD, AB, *]⟩
 ·clear hb
  refine goM ?_
  refine Bu (by simp only [resRf, resRs, resR]; first | done | rfl) ⟨rfl, ys, by omega, ?_⟩
  rw [hh.same]; exact hM
theorem Mem.cM {B H : Heap} {r s : Res} {M : List Res} (h : Mem B H (.ro (pack [r, s]) :: M)) : Mem B H (r :: s :: M) := Mem.Fu (L := [r, s]) h
theorem Mem.pull {B H : Heap} {L M : List Res} {i : Nat} {r : Res} (h : Mem B H (.ro (pack L) :: M)) (hr : L[i]? = some r) : Mem B H (r :: .ro (pack (L.set i (.own 1 AH .AN []))) :: M) := by
 obtain ⟨hi, rfl⟩ := List.getElem?_eq_some_iff.1 hr
 have h1 := h.Fu.nil 1 AH
 have e : L = L.take i ++ L[i] :: L.drop (i + 1) := by rw [← List.drop_eq_getElem_cons hi, List.take_append_drop]
 have e2 : L.set i (.own 1 AH .AN ([] : List Int)) = L.take i ++ .own 1 AH .AN [] :: L.drop (i + 1) := by rw [List.set_eq_take_append_cons_drop, if_pos hi]
 have h2 : Mem B H ((L.take i ++ .own 1 AH .AN ([] : List Int) :: L.drop (i + 1)) ++ (L[i] :: M)) := by
  have p : ∀ (A D M : List Res) (x z : Res), (z :: ((A ++ x :: D) ++ M)).Perm ((A ++ z :: D) ++ x :: M) := fun A D M x z => by
   simp only [List.append_assoc, List.cons_append]
   exact (List.perm_middle.symm).trans (List.Perm.append_left A (List.Perm.cons z List.perm_middle.symm))
  refine h1.perm (List.Perm.trans ?_ (p _ _ _ _ _))
  rw [← e]
 rw [← e2] at h2
 exact h2.packed.swap
theorem lK (B H : Heap) (L : List Res) (f : Res → List Res) (v : V) (xs : List Ev) (hM : Mem B H L) (hh : Has L (.own 6 evC v xs) f) (lx : xs.length ≤ 2 ^ 42) : ∃ w H', Call Tryz.prog 65 [v] H w H' ∧ w = .tup [] ∧ ∃ ys : List Ev, ys.length = xs.length ∧ Mem B H' (f (.own 6 evC v ys)) := by
 refine CO fit mixed hM Tryz.func65 rfl rfl rfl (by kernel_rfl) fun _ => ?_
 obtain ⟨n, hn⟩ : ∃ n, xs.length = n := ⟨_, rfl⟩
 refine goM ?_
 refine AT (fun c ρ hp => ∃ (k : Nat) (ys : List Ev) (L' : List Res), k ≤ n ∧ c = n - k ∧ ys.length = n ∧ Mem B hp L' ∧ Has L' (.own 6 evC v ys) f ∧ ρ 0 = v ∧ ρ 2 = .int .i64 (k : Int)) ⟨0, xs, L, Nat.zero_le _, rfl, hn, hM, hh, rfl, rfl⟩ ?_
 clear hM hh
 rintro _ ρ hp ⟨k, ys, L', hk, rfl, hys, hM, hh, h0, h2⟩
 have hlen := (hM.sl hh).len T29 rfl
 rw [hys] at hlen
 refine goM ?_
 refine AE (fun hb => ?_) (fun hb => ?_)
 ·have hk' : k < n := by simpa using hb
  clear hb
  obtain ⟨e, he⟩ : ∃ e, ys[k]? = some e := ⟨ys[k]'(by omega), by simp⟩
  obtain ⟨b, o, cs, hi, hc, _, hlo, hlc⟩ := (hM.sl hh).get T29 rfl GY rfl he
  have lo3 : loadV T 3 hp b (o + 3) = some (.int .i64 e.at_) := AF T3 rfl (hlc 3 _ (by rw [hc]; rfl))
  obtain ⟨b', hix, hput⟩ := hM.elemAt hh T29 rfl GY rfl he 3 T3 (by decide)
  rw [hi] at hix
  cases hix
  obtain ⟨z, hz⟩ : ∃ z, IntKind.i64.wrap ((BitVec.ofInt IntKind.i64.bits e.at_ ^^^ BitVec.ofInt IntKind.i64.bits 90).toNat : Int) = z := ⟨_, rfl⟩
  obtain ⟨H', hst, hM'⟩ := hput (.int .i64 z) ⟨e.kind, e.member, e.BV, z, e.rate, e.mom⟩ rfl rfl (fun cs hl hR => by rw [hR]; rfl)
  have hw := AG (n := k) (by omega)
  clear he hput hlo hlc hc
  refine goM ?_
  refine Dc hst ?_
  refine goM ?_
  exact ⟨n - (k + 1), by omega, k + 1, _, _, hk', rfl, by simpa using hys, hM', hh.again _, by simp [AD, AB, *]⟩
 ·clear hb
  refine goM ?_
  refine Bu (by simp only [resRf, resRs, resR]; first | done | rfl) ⟨rfl, ys, by omega, ?_⟩
  rw [hh.same]; exact hM
structure lW (rv : List (V × Int)) (P : List Res) : Prop where
 len : P.length = rv.length
 at_ : ∀ (j : Nat) p, rv[j]? = some p → ∃ xs : List Int, P[j]? = some (.own 1 AH p.1 xs) ∧ xs.length ≤ 140737488351232
theorem mG {rv : List (V × Int)} {rs : List (List Int × Int)} (h : Jr rv rs) (hl : ∀ r ∈ rs, r.1.length * 8 ≤ 140737488351232) : lW rv (Dq rv rs) := by
 refine ⟨by unfold Dq; rw [List.length_zipWith, h.1, Nat.min_self], fun j p hp => ?_⟩
 have hj := (List.getElem?_eq_some_iff.1 hp).1
 have hr : rs[j]? = some (rs[j]'(by rw [← h.1]; exact hj)) := by simp
 exact ⟨_, Xb hp hr, by have := hl _ (List.mem_of_getElem? hr); omega⟩
theorem lU (B H : Heap) (L P : List Res) (u : V) (rv : List (V × Int)) (hM : Mem B H (.own 2 Dg u rv :: (P ++ L))) (hq : lW rv P) (lx : rv.length ≤ 2 ^ 42) : ∃ w H', Call Tryz.prog 63 [u] H w H' ∧ w = .tup [] ∧ Mem B H' L := by
 refine CO fit mixed hM Tryz.func63 rfl rfl rfl (by kernel_rfl) fun _ => ?_
 obtain ⟨n, hn⟩ : ∃ n, rv.length = n := ⟨_, rfl⟩
 refine goM ?_
 refine AT (fun c ρ hp => ∃ (k : Nat) (rv : List (V × Int)) (P : List Res), k ≤ n ∧ c = n - k ∧ rv.length = n ∧ lW rv P ∧ Mem B hp (.own 2 Dg u rv :: (P ++ L)) ∧ ρ 0 = u ∧ ρ 2 = .int .i64 (k : Int)) ⟨0, rv, P, Nat.zero_le _, rfl, hn, hq, hM, rfl, rfl⟩ ?_
 have lxn : n ≤ 2 ^ 42 := by omega
 clear hM hq hn lx
 rintro _ ρ hp ⟨k, rv, P, hk, rfl, hrl, hq, hM, h0, h2⟩
 have hlen := (hM.sl .here).len T24 rfl
 rw [hrl] at hlen
 refine goM ?_
 refine AE (fun hb => ?_) (fun hb => ?_)
 ·have hk' : k < n := by simpa using hb
  clear hb
  obtain ⟨⟨p, y⟩, he⟩ : ∃ e, rv[k]? = some e := ⟨rv[k]'(by omega), by simp⟩
  obtain ⟨xs, hP, hxs⟩ := hq.at_ k _ he
  obtain ⟨b, o, cs, hi, hc, _, hlo, hlc⟩ := (hM.sl .here).get T24 rfl GD rfl he
  have lo0 : loadV T 27 hp b o = some p := AF T27 rfl (hlc 0 _ (by rw [hc]; rfl))
  obtain ⟨_, H2, c1, rfl, ys, hys, hM2⟩ := lF B hp _ _ p xs hM (.there (Has.app (Has.nth hP))) (by omega)
  obtain ⟨b', o', cs', hi', hc', _, hlo', hlc'⟩ := (hM2.sl .here).get T24 rfl GD rfl he
  rw [hi] at hi'
  cases hi'
  have lo1 : loadV T 3 H2 b (o + 1) = some (.int .i64 y) := AF T3 rfl (hlc' 1 _ (by rw [hc']; rfl))
  obtain ⟨b', hix, hput⟩ := hM2.elemAt .here T24 rfl GD rfl he 1 T3 (by decide)
  rw [hi] at hix
  cases hix
  obtain ⟨z, hz⟩ : ∃ z, IntKind.i64.wrap ((BitVec.ofInt IntKind.i64.bits y ^^^ BitVec.ofInt IntKind.i64.bits 90).toNat : Int) = z := ⟨_, rfl⟩
  obtain ⟨H', hst, hM'⟩ := hput (.int .i64 z) (p, z) rfl rfl (fun cs hl hR => by rw [hR]; rfl)
  have hw := AG (n := k) (by omega)
  have hkP := (List.getElem?_eq_some_iff.1 hP).1
  have hq2 : lW (rv.set k (p, z)) (P.set k (.own 1 AH p ys)) := ⟨by rw [List.length_set, List.length_set]; exact hq.len, fun j q hj => by
   by_cases hjk : k = j
   ·subst hjk
    rw [List.getElem?_set_self (by omega)] at hj
    cases hj
    exact ⟨ys, List.getElem?_set_self hkP, by omega⟩
   ·rw [List.getElem?_set_ne hjk] at hj ⊢
    exact hq.at_ j q hj⟩
  clear he hput hlo hlc hc hlo' hlc' hc' hP hM2
  refine goM ?_
  refine AA c1 ?_
  refine goM ?_
  refine Dc hst ?_
  refine goM ?_
  exact ⟨n - (k + 1), by omega, k + 1, _, _, hk', rfl, by simpa using hrl, hq2, hM', by simp [AD, AB, *]⟩
 ·clear hb
  refine goM ?_
  exact Bu (by simp only [resRf, resRs, resR]; first | done | rfl) ⟨rfl, (hM.drop).sub (List.sublist_append_right _ _)⟩
theorem lP (B H : Heap) (L : List Res) (s : St) (u mv ev sv : V) (rvs : List (V × Int)) (xs : List MR) (hM : Mem B H (Cz u mv ev sv rvs xs s ++ L)) (hl : Jr rvs s.c.rows) (hv : xs.map MR.val = s.ms) (hf : s.Fit) :
  ∃ w H', Call Tryz.prog 29 [.agg (stC s.c u mv ev sv)] H w H' ∧ w = .tup [] ∧ Mem B H' L := by
 have hat := Tb hM hl hv
 have z1 : u.cells = [u] ∧ u.isTup = false := by obtain ⟨_, h, _⟩ := hat.rows; exact h.cells
 have z2 := hat.ms.cells
 have z3 := hat.es.cells
 have z4 := hat.st.cells
 have l1 := hf.c.rows
 have l4 := hf.es
 have l5 := hf.st
 have hkx := hf.kx hat
 have hlx := hat.len
 have hlm := hf.ms
 obtain ⟨n, hn⟩ : ∃ n, xs.length = n := ⟨_, rfl⟩
 have hlen := hat.ms.len T28 rfl
 rw [hn] at hlen
 clear hat
 refine CO fit mixed hM Tryz.func29 rfl rfl rfl (by kernel_rfl) fun _ => ?_
 refine AO (AK ?_)
 refine Ax T32 fun b1 H1 hM => ?_
 have hr := (hM.front (r := .ro (pack (Bl u rvs s.c.rows))) (.there .here)).Fu
 obtain ⟨_, H2, c1, rfl, hM2⟩ := lU B H1 (.box b1 (stC s.c u mv ev sv) :: .ro (pack (Bn xs)) :: .own 6 mrC mv xs :: .own 6 evC ev s.es :: .own 3 BE sv s.st :: L) (Dq rvs s.c.rows) u rvs hr (mG hl hf.c.row) (by have := hl.1; omega)
 clear hr
 refine goM ?_
 refine AA c1 ?_
 clear c1
 repeat clear hM
 have hM := hM2
 clear hM2
 refine goM ?_
 refine AT (fun c ρ hp => ∃ (k : Nat) (ys : List MR) (P : List Res), k ≤ n ∧ c = n - k ∧ ys.length = n ∧ P.length = n ∧ (∀ (j : Nat) y, k ≤ j → ys[j]? = some y → P[j]? = some (Mq y.w y.v y.k.ws y.k.vs) ∧ y.k.Fit) ∧ Mem B hp (.box b1 (stC s.c u mv ev sv) :: .ro (pack P) :: .own 6 mrC mv ys :: .own 6 evC ev s.es :: .own 3 BE sv s.st :: L) ∧ ρ 1 = .ptr b1 0 ∧ ρ 2 = .int .i64 (k : Int)) ⟨0, xs, Bn xs, Nat.zero_le _, rfl, hn, by unfold Bn; rw [List.length_map, hn], fun j y _ hy => ⟨by unfold Bn; rw [List.getElem?_map, hy]; rfl, hkx y (List.mem_of_getElem? hy)⟩, hM, by simp [AD, AB, BT, *]⟩ ?_
 repeat clear hM
 have hnb : n * 80 ≤ 140737488351232 := by omega
 clear hkx hn hv hlx
 rintro _ ρ hp ⟨k, ys, P, hk, rfl, hyl, hPl, hP, hM, g1, g2⟩
 refine goM ?_
 refine AE (fun hb => ?_) (fun hb => ?_)
 ·have hk' : k < n := by simpa using hb
  clear hb
  obtain ⟨y, hy⟩ : ∃ e, ys[k]? = some e := ⟨ys[k]'(by omega), by simp⟩
  obtain ⟨hPk, kf⟩ := hP k y (Nat.le_refl _) hy
  obtain ⟨bo, o, hi, _, loK, _⟩ := EM (hM.sl (v := mv) (xs := ys) hsG) hy
  have hka := Si ((hM.front (r := .ro (pack P)) tkG).pull hPk |>.get .here)
  have t1 := hka.ws.cells
  have t2 := hka.vs.cells
  have h1 := ((hM.front (r := .ro (pack P)) tkG).pull hPk).cM
  obtain ⟨_, H3, c1, rfl, hM3⟩ := lJ B hp _ y.w y.v y.k h1 kf
  obtain ⟨bo2, o2, hi2, _, _, loH⟩ := EM (hM3.sl (v := mv) (xs := ys) hsG) hy
  rw [hi] at hi2
  cases hi2
  obtain ⟨b', hix, hput⟩ := hM3.elemAt (sz := 6) (R := mrC) (v := mv) (xs := ys) hsG T28 rfl T84 rfl hy 5 T3 (by decide)
  rw [hi] at hix
  cases hix
  obtain ⟨z, hz⟩ : ∃ z, IntKind.i64.wrap ((BitVec.ofInt IntKind.i64.bits y.h ^^^ BitVec.ofInt IntKind.i64.bits 90).toNat : Int) = z := ⟨_, rfl⟩
  obtain ⟨H', hst, hM4⟩ := hput (.int .i64 z) ⟨y.w, y.v, y.k, z⟩ rfl rfl (fun cs hl hR => by rw [hR]; rfl)
  have hw := AG (n := k) (by omega)
  have hP2 : ∀ (j : Nat) x, k + 1 ≤ j → (ys.set k ⟨y.w, y.v, y.k, z⟩)[j]? = some x → (P.set k (.own 1 AH .AN []))[j]? = some (Mq x.w x.v x.k.ws x.k.vs) ∧ x.k.Fit := fun j x hj hx => by
   rw [List.getElem?_set_ne (by omega)] at hx ⊢
   exact hP j x (by omega) hx
  clear hput h1 hy hPk hP hka
  refine goM ?_
  refine AA c1 ?_
  clear c1 loK
  repeat clear hM
  have hM := hM3
  clear hM3
  refine goM ?_
  refine Jx hst ?_
  repeat clear hM
  have hM5 := hM4.front (r := .box b1 (stC s.c u mv ev sv)) tkG
  clear hM4
  refine goM ?_
  exact ⟨n - (k + 1), by omega, k + 1, _, _, hk', rfl, by simpa using hyl, by simpa using hPl, hP2, hM5, by simp [AD, AB, *]⟩
 ·clear hb
  obtain ⟨_, H3, c1, rfl, es', _, hM3⟩ := lK B hp _ _ ev s.es hM hsG (by omega)
  refine goM ?_
  refine AA c1 ?_
  clear c1
  repeat clear hM
  have hM := hM3
  clear hM3
  refine goM ?_
  obtain ⟨_, H4, c1, rfl, st', _, hM4⟩ := lT B H3 _ _ sv s.st hM hsG (by omega)
  refine AA c1 ?_
  clear c1
  refine goM ?_
  exact Bu (by simp only [resRf, resRs, resR]; first | done | rfl) ⟨rfl, hM4.sub sbG⟩
theorem lL {B H : Heap} {L L' : List Res} {q : SV} {s : St} (hM : Mem B H L) (hk : q.Ok s) (hf : s.Fit) (ht : Take L (q.own s) L' := by (repeat (first | exact Take.here | apply Take.there))) : ∃ w H', Call Tryz.prog 29 [.agg (q.c s)] H w H' ∧ w = .tup [] ∧ Mem B H' L' :=
 lP B H L' s q.u q.mv q.ev q.sv q.rvs q.xs (Mem.Fu (L := Cz q.u q.mv q.ev q.sv q.rvs q.xs s) (hM.front ht)) hk.lk hk.val hf
theorem Own.mO {sz : Nat} {α : Type} {R : List V → α → Prop} {H : Heap} {b : Nat} {v : V} {xs ms : List α} (h : Own sz R H b v (xs ++ ms)) : ∃ u, sliceV sz v none (some (.int .i64 (xs.length : Int))) none = some u ∧ Tt sz R H u xs ms ∧ u.blk = some b := by
 obtain ⟨cap, t, cs, rfl, h1, h2, h3, h4⟩ := h
 rw [List.length_append] at h1
 refine ⟨.slc b 0 xs.length cap t sz, ?_, ⟨b, cap, t, cs, true, rfl, by rw [List.length_append]; exact h1, h2, h4⟩, rfl⟩
 simp only [sliceV, boundV, Option.isSome_none, Bool.false_and, Bool.false_eq_true, if_false, ne_eq, not_true_eq_false]
 rw [if_pos (by omega)]
 simp
theorem kI {s : St} (h : It s) : It (PA s) := by
 have hs := Lj h.st (fun e => decide (e.n ≠ 0))
 refine ⟨h.c, h.len, h.fits, h.tot, h.es, hs, fun m hm => ?_, fun e he => h.held e (List.mem_filter.1 he).1⟩
 obtain ⟨e, he, e1, e2⟩ := Hz (h.head m hm)
 have hp : 1 ≤ BQ s.ms m.2 := Mj hm
 have hn : e.n ≠ 0 := by have := h.held e he; rw [e1] at this; omega
 have := get_mem hs (List.mem_filter.2 ⟨he, by simpa using hn⟩)
 rw [e1, e2] at this
 exact this
theorem bU {c : Cfg} {s : St} (cf : c.Fit) (h : DO c s) : s.Fit := Uf h.ok (by rw [h.c]; exact cf)
theorem kD {x : Nat} (hx : x < 4294967296) : ((x : Nat) : Int).fdiv (2 ^ min (Int.toNat 1) IntKind.u32.bits) = ((x / 2 : Nat) : Int) ∧
  IntKind.u32.wrap ((BitVec.ofInt IntKind.u32.bits (x : Int) &&& BitVec.ofInt IntKind.u32.bits 1).toNat : Int) = ((x % 2 : Nat) : Int) ∧
  IntKind.u32.wrap ((BitVec.ofInt IntKind.u32.bits ((x / 2 : Nat) : Int) ^^^ BitVec.ofInt IntKind.u32.bits 3988292384).toNat : Int) = ((x / 2 ^^^ 3988292384 : Nat) : Int) := by
 have h1 := aP (x := x) (y := 1) hx (by decide)
 rw [Nat.and_one_is_mod] at h1
 exact ⟨YW x, h1, NM (x := x / 2) (y := 3988292384) (by omega) (by decide)⟩
theorem mI {a b : Int} (h0 : 0 ≤ a) (h : a < 2 ^ 40) (hb0 : 0 ≤ b) (hb : b < 256) : vbin T .or 3 (.int .i64 (IntKind.i64.wrap (a * 2 ^ (min 8 IntKind.i64.bits)))) (.int .i64 b) = some (.int .i64 (a * 256 + b)) := by
 obtain ⟨m, rfl⟩ : ∃ m : Nat, a = m := ⟨a.toNat, by omega⟩
 obtain ⟨n, rfl⟩ : ∃ n : Nat, b = n := ⟨b.toNat, by omega⟩
 have e8 : (2 : Int) ^ (min 8 IntKind.i64.bits) = 256 := by decide
 rw [e8, wzG]
 simp only [vbin, intBin, if_true]
 have e1 : (m : Int) * 256 = ((m * 256 : Nat) : Int) := by omega
 rw [e1, BitVec.ofInt_natCast, BitVec.ofInt_natCast, BitVec.toNat_or, BitVec.toNat_ofNat, BitVec.toNat_ofNat, Nat.mod_eq_of_lt (by show _ < 2 ^ 64; omega), Nat.mod_eq_of_lt (by show _ < 2 ^ 64; omega)]
 have e2 : m * 256 ||| n = m * 256 + n := by
  have := Nat.two_pow_add_eq_or_of_lt (i := 8) (b := n) (by omega) m
  rw [Nat.mul_comm m 256]
  exact this.symm
 rw [e2, wzG]
 congr 2
theorem mA {bs : List Int} {k : Nat} {b : Int} (h : bs[k]? = some b) : numN (bs.drop k) = numN (bs.drop (k + 1)) * 256 + b := by
 obtain ⟨hk, rfl⟩ := List.getElem?_eq_some_iff.1 h
 rw [List.drop_eq_getElem_cons hk]; rfl
theorem lH : ∀ {bs : List Int}, okB bs → 0 ≤ numN bs ∧ numN bs < 256 ^ bs.length
 | [], _ => by simp [numN]
 | b :: bs, h => by
  have ih := lH (bs := bs) fun x hx => h x (List.mem_cons_of_mem _ hx)
  have hb := h b List.mem_cons_self
  simp only [numN, List.length_cons, Int.pow_succ]
  omega
theorem mM (H : Heap) (bs : List Int) (ho : okB bs) (hl : bs.length ≤ 4) : Call Tryz.prog 215 [.str (strOf bs)] H (.int .i64 (numN bs)) H := by
 obtain ⟨n, hn⟩ : ∃ n, bs.length = n := ⟨_, rfl⟩
 have hlen := HV bs
 rw [hn] at hlen
 refine AQ fit mixed Tryz.func215 rfl rfl rfl (by kernel_rfl) rfl fun hM => ?_
 have hw0 : IntKind.i64.wrap ((n : Int) - 1) = (n : Int) - 1 := wzG
 refine goM ?_
 refine AT (fun k ρ hp => ∃ (z : Int), k ≤ n ∧ hp = H ∧ Held (z = (k : Int) - 1) ∧ ρ 0 = .str (strOf bs) ∧ ρ 3 = .int .i64 (numN (bs.drop k)) ∧ ρ 4 = .int .i64 z) ⟨_, Nat.le_refl _, rfl, rfl, rfl, by rw [List.drop_of_length_le (by omega)]; rfl, rfl⟩ ?_
 clear hM hw0
 rintro k ρ hp ⟨z, hk, rfl, hz, g0, g3, g4⟩
 refine goM ?_
 refine AE (fun hb => ?_) (fun hb => ?_)
 ·have h0 : 0 ≤ z := by simpa using hb
  clear hb
  replace hz : z = (k : Int) - 1 := hz
  obtain ⟨j, rfl⟩ : ∃ j, k = j + 1 := ⟨k - 1, by omega⟩
  have hzj : z = j := by omega
  obtain ⟨b, hbj⟩ : ∃ b, bs[j]? = some b := ⟨bs[j]'(by omega), by simp⟩
  have hb := ho b (List.mem_of_getElem? hbj)
  have hd := mA hbj
  have hin := lH (bs := bs.drop (j + 1)) fun x hx => ho x (List.mem_of_mem_drop hx)
  have hp4 : (256 : Int) ^ (bs.drop (j + 1)).length ≤ 16777216 := by
   have : (bs.drop (j + 1)).length ≤ 3 := by rw [List.length_drop]; omega
   have h3 : (256 : Nat) ^ (bs.drop (j + 1)).length ≤ 256 ^ 3 := Nat.pow_le_pow_right (by decide) this
   have h4 : (256 : Int) ^ (bs.drop (j + 1)).length = ((256 ^ (bs.drop (j + 1)).length : Nat) : Int) := by rw [Int.natCast_pow]; rfl
   rw [h4]; omega
  have hor := mI (a := numN (bs.drop (j + 1))) (b := b) hin.1 (by omega) hb.1 hb.2
  rw [← hd] at hor
  have hwb : IntKind.i64.wrap b = b := wzG
  have hwz : IntKind.i64.wrap (z - 1) = z - 1 := wzG
  obtain ⟨a, ha⟩ : ∃ a, numN (bs.drop (j + 1)) = a := ⟨_, rfl⟩
  rw [ha] at g3 hor
  obtain ⟨s, hs⟩ : ∃ s, IntKind.i64.wrap (a * 2 ^ (min 8 IntKind.i64.bits)) = s := ⟨_, rfl⟩
  have hsh : vbin T .shl 3 (.int .i64 a) (.int .u64 8) = some (.int .i64 s) := by
   rw [← hs]
   simp only [vbin, shiftBin]
   rw [if_neg (by decide)]; rfl
  rw [hs] at hor
  have hz1 : Held (z - 1 = (j : Int) - 1) := by show z - 1 = (j : Int) - 1; omega
  clear hd hin hp4 ha hs h0 hz
  replace hzj : Held (z = (j : Int)) := hzj
  repeat (first | refine BC (ED j eLk eLk hzj ho hbj) ?_ | (refine Bs ?_; refine BC (EC eLk eLk hsh) ?_) | (refine Bs ?_; refine BC (EC eLk eLk hor) ?_) | (refine Bs ?_; refine OE ?_) | (refine Bz ?_; refine Nq ?_) | (refine CG ?_; first | refine BO ?_ | refine At ?_ | refine KU ?_) | (refine CF ?_; first | refine BS ?_ | refine Aw ?_ | refine KJ ?_) | (refine IU ?_; first | refine Gc ?_ | refine IT ?_) | refine AO ?_ | refine AK ?_ | refine Ae (by decide +kernel) ?_ | refine AW ?_ | refine BN ?_ | refine BM ?_ | refine Ah ?_ | refine As ?_ | refine Ag ?_ | refine AR ?_ | refine Ar ?_ | refine Ad ?_ | refine AS ?_ | refine Aq ?_ | refine Ac ?_ | refine AV rfl ?_)
  exact ⟨j, by omega, z - 1, by omega, rfl, hz1, by simp [AD, AB, *]⟩
 ·have h0 : ¬ 0 ≤ z := by simpa using hb
  replace hz : z = (k : Int) - 1 := hz
  obtain rfl : k = 0 := by omega
  clear hb h0
  rw [List.drop_zero] at g3
  refine goM ?_
  exact AY ⟨rfl, List.prefix_refl _⟩
def lG (s : ByteArray) : List Int := s.data.toList.map fun b => (b.toNat : Int)
theorem lQ (s : ByteArray) : (lG s).length = s.size := by simp [lG]
theorem lS (s : ByteArray) : okB (lG s) := fun b hb => by
 obtain ⟨x, _, rfl⟩ := List.mem_map.1 hb
 have := x.toNat_lt
 omega
theorem lM (s : ByteArray) : strOf (lG s) = s := by
 apply ByteArray.ext
 unfold strOf lG
 simp only [List.map_map]
 have : ((fun n : Int => UInt8.ofNat n.toNat) ∘ fun b : UInt8 => (b.toNat : Int)) = id := by
  funext b
  simp
 rw [this, List.map_id]
theorem kH (H : Heap) (bs : List Int) (ho : okB bs) (hl : bs.length ≤ 2 ^ 40) : Call Tryz.prog 81 [.str (strOf bs)] H (.int .i64 (Rg bs : Nat)) H := by
 have hlen := HV bs
 obtain ⟨n, hn⟩ : ∃ n, bs.length = n := ⟨_, rfl⟩
 rw [hn] at hlen hl
 refine AQ fit mixed Tryz.func81 rfl rfl rfl (by kernel_rfl) rfl fun hM => ?_
 refine goM ?_
 refine AT (fun m ρ hp => ∃ k : Nat, k ≤ n ∧ m = n - k ∧ H = hp ∧ ρ 0 = .str (strOf bs) ∧ ρ 3 = .int .u32 ((Gd bs k : Nat) : Int) ∧ ρ 4 = .int .i64 (k : Int)) ⟨0, Nat.zero_le _, rfl, rfl, rfl, by rw [No]; rfl, rfl⟩ ?_
 rintro _ ρ hp ⟨k, hk, rfl, rfl, g0, g3, g4⟩
 have hx0 := Ky ho k
 by_cases hk' : k < n
 ·have dk : decide ((k : Int) < (n : Int)) = true := dtG
  obtain ⟨b, hb⟩ : ∃ b, bs[k]? = some b := ⟨bs[k]'(by omega), by simp⟩
  have hs := Nn hb
  unfold Kx at hs
  obtain ⟨e1, e2, e3⟩ := dN hx0 (ho b (List.mem_of_getElem? hb))
  have hw := AG (n := k) (by omega)
  obtain ⟨y, hy⟩ : ∃ y, Gd bs k ^^^ b.toNat = y := ⟨_, rfl⟩
  rw [hy] at e2 e3 hs
  obtain ⟨x0, hx⟩ : ∃ x0, Gd bs k = x0 := ⟨_, rfl⟩
  rw [hx] at e2 g3
  clear hy hx
  refine goM ?_
  refine BC (ED k eLk eLk rfl ho hb) ?_
  clear hb
  refine goM ?_
  refine AT (fun m ρ hp => ∃ j : Nat, j ≤ 8 ∧ m = 8 - j ∧ H = hp ∧ ρ 0 = .str (strOf bs) ∧ ρ 3 = .int .u32 ((crcBits j y : Nat) : Int) ∧ ρ 4 = .int .i64 (k : Int) ∧ ρ 5 = .int .i64 (j : Int)) ⟨0, by omega, rfl, rfl, by simp [AD, AB, crcBits, *]⟩ ?_
  clear g0 g3 g4
  rintro _ ρ hp ⟨j, hj, rfl, rfl, g0, g3, g4, g5⟩
  by_cases hj' : j < 8
  ·have dj : decide ((j : Int) < 8) = true := dtG
   have hwj := AG (n := j) (by omega)
   have hst := Kw j y
   have hxj := KI j e3
   obtain ⟨xj, hxe⟩ : ∃ xj, crcBits j y = xj := ⟨_, rfl⟩
   rw [hxe] at g3 hst hxj
   obtain ⟨q1, q2, q3⟩ := kD hxj
   unfold IY at hst
   by_cases hodd : xj % 2 = 1
   ·rw [hodd] at q2
    replace q2 := q2.trans (show (((1 : Nat) : Int)) = 1 from rfl)
    rw [if_pos hodd] at hst
    rw [← hst] at q3
    clear hst hxe dk hs hodd
    refine goM ?_
    exact ⟨8 - (j + 1), by omega, j + 1, hj', rfl, rfl, by simp [AD, AB, *]⟩
   ·have h0 : xj % 2 = 0 := by omega
    rw [h0] at q2
    replace q2 := q2.trans (show (((0 : Nat) : Int)) = 0 from rfl)
    rw [if_neg hodd] at hst
    rw [← hst] at q1
    clear q3 hst hxe dk hs hodd h0
    refine goM ?_
    exact ⟨8 - (j + 1), by omega, j + 1, hj', rfl, rfl, by simp [AD, AB, *]⟩
  ·have dj : decide ((j : Int) < 8) = false := dfG
   obtain rfl : j = 8 := by omega
   rw [← hs] at g3
   clear dk
   refine goM ?_
   exact ⟨n - (k + 1), by omega, k + 1, hk', rfl, rfl, by simp [AD, AB, *]⟩
 ·have dk : decide ((k : Int) < (n : Int)) = false := dfG
  have hnn := eQ hx0
  rw [Pb bs (by omega)] at hnn
  have hlt := cE ho
  have hw : IntKind.i64.wrap ((Rg bs : Nat) : Int) = ((Rg bs : Nat) : Int) := Am (by omega)
  obtain ⟨x0, hx⟩ : ∃ x0, Gd bs k = x0 := ⟨_, rfl⟩
  rw [hx] at hnn g3
  clear hx hlt
  refine goM ?_
  exact AY ⟨rfl, List.prefix_refl _⟩
theorem kF (H : Heap) (s : List Int) (ho : okB s) (hs : s.length ≤ 1024) : Call Tryz.prog 36 [.str (strOf s)] H (.tup [.str (strOf (Cc s)), .int .i64 0]) H := by
 refine AQ fit mixed Tryz.func36 rfl rfl rfl (by kernel_rfl) rfl fun hM => ?_
 have h1 := HV s
 obtain ⟨n, hn⟩ : ∃ n, s.length = n := ⟨_, rfl⟩
 have c1 := Wx H n 2 (by omega)
 have a1 := HU (a := Bm n 2) (b := s) (by rw [CD]; omega)
 have hoh : okB (Bm n 2 ++ s) := GJ (HN _ _) ho
 have hhl : (Bm n 2 ++ s).length ≤ 2 ^ 40 := by rw [List.length_append, CD]; omega
 have c2 := kH H (Bm n 2 ++ s) hoh hhl
 have c3 := Wx H (Rg (Bm n 2 ++ s) : Nat) 4 (by omega)
 have a2 := HU (a := Bm n 2 ++ s) (b := Bm (Rg (Bm n 2 ++ s) : Nat) 4) (by rw [List.length_append, CD, CD]; omega)
 have he : Cc s = Bm n 2 ++ s ++ Bm (Rg (Bm n 2 ++ s) : Nat) 4 := by unfold Cc KR; rw [hn]
 rw [← he] at a2
 obtain ⟨z, hz⟩ : ∃ z, Rg (Bm n 2 ++ s) = z := ⟨_, rfl⟩
 rw [hz] at c2 c3 a2
 have dn : decide ((n : Int) > 1024) = false := dfG
 rw [hn] at h1
 clear he hz hoh hhl hn
 generalize Bm n 2 ++ s = A at *
 generalize Bm (z : Int) 4 = B at *
 refine goM ?_
 refine AA c1 ?_
 refine goM ?_
 refine BC (EC eLk eLk a1) ?_
 refine goM ?_
 refine AA c2 ?_
 refine goM ?_
 refine AA c3 ?_
 refine goM ?_
 refine BC (EC eLk eLk a2) ?_
 refine goM ?_
 exact An ⟨rfl, hM.pre⟩
theorem mN (H : Heap) (t : List Int) (a : Nat) (ho : okB t) (hl : t.length ≤ 2 ^ 47) (ha : a ≤ t.length) : Call Tryz.prog 167 [.str (strOf t), .int .i64 (a : Int)] H (dZ t a) H := by
 unfold dZ Qr
 obtain ⟨n, hn⟩ : ∃ n, t.length = n := ⟨_, rfl⟩
 have h1 := HV t
 rw [hn] at h1 ha hl ⊢
 have d1 : decide ((a : Int) < 0) = false := dfG
 have d2 : decide ((a : Int) > (n : Int)) = false := dfG
 have w1 : IntKind.i64.wrap ((n : Int) - (a : Int)) = ((n - a : Nat) : Int) := by rw [wzG]; omega
 by_cases h6 : a + 6 ≤ n
 ·rw [if_pos h6]
  have d3 : decide (((n - a : Nat) : Int) < 6) = false := dfG
  have w2 : IntKind.i64.wrap ((a : Int) + 2) = ((a + 2 : Nat) : Int) := by rw [wzG]; omega
  have e2 : (t.drop a).take (a + 2 - a) = (t.drop a).take 2 := by rw [Nat.add_sub_cancel_left]
  have hol : okB ((t.drop a).take 2) := fun z hz => ho z (List.mem_of_mem_drop (List.mem_of_mem_take hz))
  have hl2 : ((t.drop a).take 2).length ≤ 2 := by rw [List.length_take]; omega
  have c0 := mM H ((t.drop a).take 2) hol (by omega)
  obtain ⟨z, hz⟩ : ∃ z, numN ((t.drop a).take 2) = z := ⟨_, rfl⟩
  have hin := lH hol
  have hzb : z < 65536 := by
   have hp : (256 : Int) ^ ((t.drop a).take 2).length ≤ 65536 := by
    have h3 : (256 : Nat) ^ ((t.drop a).take 2).length ≤ 256 ^ 2 := Nat.pow_le_pow_right (by decide) hl2
    have h4 : (256 : Int) ^ ((t.drop a).take 2).length = ((256 ^ ((t.drop a).take 2).length : Nat) : Int) := by rw [Int.natCast_pow]; rfl
    rw [h4]; omega
   omega
  rw [hz] at c0 hin ⊢
  obtain ⟨k, rfl⟩ : ∃ k : Nat, z = k := ⟨z.toNat, by omega⟩
  rw [Int.toNat_natCast]
  have w6 : IntKind.i64.wrap (6 + (k : Int)) = ((6 + k : Nat) : Int) := by rw [wzG]; omega
  clear hz hin hol hl2
  by_cases hg : k ≤ 1024 ∧ a + 6 + k ≤ n
  ·rw [if_pos hg]
   obtain ⟨hk1, hkn⟩ := hg
   have dk : decide ((k : Int) > 1024) = false := dfG
   have d4 : decide (((n - a : Nat) : Int) < ((6 + k : Nat) : Int)) = false := dfG
   have w3 : IntKind.i64.wrap (((a + 2 : Nat) : Int) + (k : Int)) = ((a + 2 + k : Nat) : Int) := by rw [wzG]; omega
   have w4 : IntKind.i64.wrap ((a : Int) + 6) = ((a + 6 : Nat) : Int) := by rw [wzG]; omega
   have w5 : IntKind.i64.wrap (((a + 6 : Nat) : Int) + (k : Int)) = ((a + 6 + k : Nat) : Int) := by rw [wzG]; omega
   have e3 : (t.drop (a + 2)).take (a + 2 + k - (a + 2)) = (t.drop (a + 2)).take k := by rw [Nat.add_sub_cancel_left]
   have e4 : (t.drop a).take (a + 6 + k - a) = (t.drop a).take (6 + k) := by rw [show a + 6 + k - a = 6 + k by omega]
   have hoS : okB ((t.drop (a + 2)).take k) := fun z hz => ho z (List.mem_of_mem_drop (List.mem_of_mem_take hz))
   have hoT : okB ((t.drop a).take (6 + k)) := fun z hz => ho z (List.mem_of_mem_drop (List.mem_of_mem_take hz))
   obtain ⟨s, hs⟩ : ∃ s, (t.drop (a + 2)).take k = s := ⟨_, rfl⟩
   have hsl : s.length ≤ 1024 := by rw [← hs, List.length_take]; omega
   rw [hs] at e3 hoS ⊢
   have c1 := kF H s hoS hsl
   have hof : okB (Cc s) := by unfold Cc KR; exact GJ (GJ (HN _ _) hoS) (HN _ _)
   have hne := Xl hof hoT
   clear hs hof hoT hoS
   by_cases heq : Cc s = (t.drop a).take (6 + k)
   ·rw [if_pos heq]
    rw [decide_eq_true heq] at hne
    clear heq
    generalize Cc s = F at *
    refine AQ fit mixed Tryz.func167 rfl rfl rfl (by kernel_rfl) rfl fun hM => ?_
    refine goM ?_
    refine BC (EZ a (a + 2) eLk eLk eLk (DG _ rfl (by omega)) (DG _ rfl (by omega))) ?_
    rw [e2]
    refine goM ?_
    refine AA c0 ?_
    refine goM ?_
    refine BC (EZ (a + 2) (a + 2 + k) eLk eLk eLk (DG _ rfl (by omega)) (DG _ rfl (by omega))) ?_
    rw [e3]
    refine goM ?_
    refine AA c1 ?_
    refine goM ?_
    refine BC (EZ a (a + 6 + k) eLk eLk eLk (DG _ rfl (by omega)) (DG _ rfl (by omega))) ?_
    rw [e4]
    refine goM ?_
    exact CI ⟨rfl, hM.pre⟩
   ·rw [if_neg heq]
    rw [decide_eq_false heq] at hne
    clear heq
    generalize Cc s = F at *
    refine AQ fit mixed Tryz.func167 rfl rfl rfl (by kernel_rfl) rfl fun hM => ?_
    refine goM ?_
    refine BC (EZ a (a + 2) eLk eLk eLk (DG _ rfl (by omega)) (DG _ rfl (by omega))) ?_
    rw [e2]
    refine goM ?_
    refine AA c0 ?_
    refine goM ?_
    refine BC (EZ (a + 2) (a + 2 + k) eLk eLk eLk (DG _ rfl (by omega)) (DG _ rfl (by omega))) ?_
    rw [e3]
    refine goM ?_
    refine AA c1 ?_
    refine goM ?_
    refine BC (EZ a (a + 6 + k) eLk eLk eLk (DG _ rfl (by omega)) (DG _ rfl (by omega))) ?_
    rw [e4]
    refine goM ?_
    exact CI ⟨rfl, hM.pre⟩
  ·rw [if_neg hg]
   by_cases hk1 : k ≤ 1024
   ·have dk : decide ((k : Int) > 1024) = false := dfG
    have d4 : decide (((n - a : Nat) : Int) < ((6 + k : Nat) : Int)) = true := dtG
    clear hg
    refine AQ fit mixed Tryz.func167 rfl rfl rfl (by kernel_rfl) rfl fun hM => ?_
    refine goM ?_
    refine BC (EZ a (a + 2) eLk eLk eLk (DG _ rfl (by omega)) (DG _ rfl (by omega))) ?_
    rw [e2]
    refine goM ?_
    refine AA c0 ?_
    refine goM ?_
    exact CI ⟨rfl, hM.pre⟩
   ·have dk : decide ((k : Int) > 1024) = true := dtG
    clear hg
    refine AQ fit mixed Tryz.func167 rfl rfl rfl (by kernel_rfl) rfl fun hM => ?_
    refine goM ?_
    refine BC (EZ a (a + 2) eLk eLk eLk (DG _ rfl (by omega)) (DG _ rfl (by omega))) ?_
    rw [e2]
    refine goM ?_
    refine AA c0 ?_
    refine goM ?_
    exact CI ⟨rfl, hM.pre⟩
 ·rw [if_neg h6]
  have d3 : decide (((n - a : Nat) : Int) < 6) = true := dtG
  clear h6
  refine AQ fit mixed Tryz.func167 rfl rfl rfl (by kernel_rfl) rfl fun hM => ?_
  refine goM ?_
  exact CI ⟨rfl, hM.pre⟩
theorem mL (H : Heap) (t : List Int) (ho : okB t) (hl : t.length ≤ 2 ^ 47) : ∃ w H', Call Tryz.prog 108 [.str (strOf t)] H w H' ∧ ∃ u, w = .tup [u, .int .i64 ((loadN (t.take 65536) 65537 0).2 : Int)] ∧ Mem H H' [.own 1 bsC u (Pr t)] := by
 refine Ao fit mixed Tryz.func108 rfl rfl rfl (by kernel_rfl) fun hM => ?_
 unfold Pr
 have h1 := HV t
 obtain ⟨n, hn⟩ : ∃ n, t.length = n := ⟨_, rfl⟩
 rw [hn] at h1
 have hmb : builtinP T .min [3, 3] [.int .i64 (n : Int), .int .i64 65536] = some (.int .i64 ((min n 65536 : Nat) : Int)) := Vr (k := 65536)
 have eT : (t.drop 0).take (min n 65536 - 0) = t.take 65536 := by rw [List.drop_zero, Nat.sub_zero, Zr hn]
 have hmn : min n 65536 ≤ n := Nat.min_le_left _ _
 obtain ⟨m, hm⟩ : ∃ m, min n 65536 = m := ⟨_, rfl⟩
 rw [hm] at hmb eT hmn
 have ho' : okB (t.take 65536) := fun z hz => ho z (List.mem_of_mem_take hz)
 have hl' : (t.take 65536).length ≤ 65536 := by rw [List.length_take]; omega
 obtain ⟨t', ht⟩ : ∃ t', t.take 65536 = t' := ⟨_, rfl⟩
 rw [ht] at eT ho' hl' ⊢
 obtain ⟨q, hq⟩ : ∃ q, loadN t' 65537 0 = q := ⟨_, rfl⟩
 rw [hq]
 clear hm
 refine goM ?_
 refine BC (EZ 0 m eLk eLk eLk rfl (DG _ rfl (by omega))) ?_
 rw [eT]
 refine goM ?_
 replace hM := hM.nil 1 bsC
 refine AT (m := 65537) (fun f ρ h => ∃ (p : Nat) (v : V) (acc : List (List Int)), Mem H h [.own 1 bsC v acc] ∧ p ≤ t'.length ∧ t'.length < p + 6 * f ∧ acc.length ≤ p ∧ q = (acc ++ (loadN t' f p).1, (loadN t' f p).2) ∧ ρ 0 = .str (strOf t') ∧ ρ 4 = v ∧ ρ 5 = .int .i64 (p : Int)) ⟨0, .AN, [], hM, Nat.zero_le _, by omega, Nat.le_refl _, by rw [hq]; rfl, by simp [AD, AB, BT, *]⟩ ?_
 clear hM hq h1 hmb eT hmn
 rintro f ρ h ⟨p, v, acc, hM, hp, hf, hal, hq, g0, g4, g5⟩
 obtain ⟨f', rfl⟩ : ∃ f', f = f' + 1 := ⟨f - 1, by omega⟩
 have c1 := mN h t' p ho' (by omega) hp
 unfold dZ at c1
 rcases OI t' f' p with ⟨s, next, k1, k2, k3, k4⟩ | ⟨k1, k2⟩
 ·rw [k1] at c1
  simp only at c1
  rw [k4] at hq
  simp only at hq
  clear k1 k4
  refine goM ?_
  refine AA c1 ?_
  refine goM ?_
  refine Aa bsC [s] [.str (strOf s)] T70 rfl T9 rfl (Cells.one (sz := 1) rfl rfl) (by decide) fun e1 H1 hM => ?_
  refine goM ?_
  refine Bg (hM.sl .here) (xs := acc) (hh := .there .here) (hb := by simp only [List.length_cons, List.length_nil]; omega) fun v2 H2 hM => ?_
  replace hM := hM.drop
  refine goM ?_
  exact ⟨f', by omega, next, v2, acc ++ [s], hM, k3, by omega, by rw [List.length_append, List.length_singleton]; omega, by rw [hq, List.append_assoc]; rfl, by simp [AD, AB, *]⟩
 ·rw [k1] at c1
  simp only at c1
  rw [k2] at hq
  simp only [List.append_nil] at hq
  subst hq
  clear k1 k2
  refine goM ?_
  refine AA c1 ?_
  refine goM ?_
  exact An ⟨v, rfl, hM⟩
theorem kR (H : Heap) (v : V) (xs : List (List Int)) (hv : Sl 1 bsC H v xs) (h1 : ∀ x ∈ xs, x.length ≤ 1024) (ho : ∀ x ∈ xs, okB x) (hn : xs.length ≤ 2 ^ 40) (hj : (CJ xs).length ≤ 65536) :
  Call Tryz.prog 37 [v] H (.tup [.str (strOf (CJ xs)), .int .i64 0]) H := by
 have hlen := hv.len T70 rfl
 obtain ⟨n, hnn⟩ : ∃ n, xs.length = n := ⟨_, rfl⟩
 rw [hnn] at hlen hn
 have hjs : ∀ k x, xs[k]? = some x → CJ (xs.take (k + 1)) = CJ (xs.take k) ++ Cc x := fun k x hx => by
  rw [List.take_add_one, hx]
  simp [CJ]
 have hjl : ∀ k, (CJ (xs.take k)).length ≤ (CJ xs).length := fun k => by
  have : CJ xs = CJ (xs.take k) ++ CJ (xs.drop k) := by
   unfold CJ
   rw [← List.flatMap_append, List.take_append_drop]
  rw [this, List.length_append]; omega
 refine AQ fit mixed Tryz.func37 rfl rfl rfl (by kernel_rfl) rfl fun hM => ?_
 refine goM ?_
 refine AT (fun m ρ hp => ∃ k : Nat, k ≤ n ∧ m = n - k ∧ H = hp ∧ ρ 0 = v ∧ ρ 4 = .str (strOf (CJ (xs.take k))) ∧ ρ 5 = .int .i64 (k : Int)) ⟨0, Nat.zero_le _, rfl, rfl, rfl, rfl, rfl⟩ ?_
 rintro _ ρ hp ⟨k, hk, rfl, rfl, g0, g4, g5⟩
 by_cases hk' : k < n
 ·have dk : decide ((k : Int) < (n : Int)) = true := dtG
  have hw := AG (n := k) (by omega)
  obtain ⟨x, hx⟩ : ∃ x, xs[k]? = some x := ⟨xs[k]'(by omega), by simp⟩
  obtain ⟨b2, o2, _, hi2, rfl, _, hlo2, _⟩ := hv.get T70 rfl T9 rfl hx
  have ho2 := AF T9 rfl hlo2
  have hm := List.mem_of_getElem? hx
  have c1 := kF H x (ho x hm) (h1 x hm)
  have e := hjs k x hx
  have hb := hjl (k + 1)
  rw [e, List.length_append] at hb
  have a1 := HU (a := CJ (xs.take k)) (b := Cc x) (by omega)
  rw [← e] at a1
  have l1 := HV (CJ (xs.take k))
  have l2 := HV (Cc x)
  have w3 : IntKind.i64.wrap (((CJ (xs.take k)).length : Int) + ((Cc x).length : Int)) = ((CJ (xs.take k)).length : Int) + ((Cc x).length : Int) := wzG
  have d6 : decide (((CJ (xs.take k)).length : Int) + ((Cc x).length : Int) > 65536) = false := dfG
  clear hjs hjl hx hlo2 hm e hb
  generalize CJ (xs.take k) = A at *
  generalize Cc x = B at *
  generalize (A.length : Int) = la at *
  generalize (B.length : Int) = lb at *
  refine goM ?_
  refine AA c1 ?_
  refine goM ?_
  refine BC (EC eLk eLk a1) ?_
  refine goM ?_
  exact ⟨n - (k + 1), by omega, k + 1, hk', rfl, rfl, by simp [AD, AB, *]⟩
 ·have dk : decide ((k : Int) < (n : Int)) = false := dfG
  rw [List.take_of_length_le (by omega)] at g4
  clear hjs hjl
  refine goM ?_
  exact An ⟨rfl, List.prefix_refl _⟩
theorem lY (H : Heap) (v : V) (ps : List Int) (hp : Sl 1 AH H v ps) (hl : ps.length ≤ 2 ^ 40) :
  Call Tryz.prog 20 [v] H (.tup [.str (strOf (Fw ps).1), .int .i64 (Fw ps).2]) H := by
 have hlen := hp.len T27 rfl
 obtain ⟨n, hn⟩ : ∃ n, ps.length = n := ⟨_, rfl⟩
 rw [hn] at hlen hl
 obtain ⟨R, hR⟩ : ∃ R, Fw ps = R := ⟨_, rfl⟩
 rw [hR]
 refine AQ fit mixed Tryz.func20 rfl rfl rfl (by kernel_rfl) rfl fun hM => ?_
 refine goM ?_
 replace hM := hM.nil 1 bsC
 refine AT (fun cc ρ h => ∃ (k : Nat) (u : V), k ≤ n ∧ cc = n - k ∧ (∀ (j : Nat) x, j < k → ps[j]? = some x → within x 0 7 = true) ∧ Mem H h [.own 1 bsC u ((Gn ps).take k)] ∧ ρ 0 = v ∧ ρ 4 = u ∧ ρ 5 = .int .i64 (k : Int)) ⟨0, .AN, Nat.zero_le _, rfl, (fun j x hj => absurd hj (Nat.not_lt_zero _)), hM, by simp [AD, AB, BT, *]⟩ ?_
 repeat clear hM
 rintro _ ρ h ⟨k, u, hk, rfl, hgood, hM, g0, g4, g5⟩
 by_cases hk' : k < n
 ·have dk : decide ((k : Int) < (n : Int)) = true := dtG
  have hw := AG (n := k) (by omega)
  obtain ⟨x, hx⟩ : ∃ x, ps[k]? = some x := ⟨ps[k]'(by omega), by simp⟩
  obtain ⟨b2, o2, _, hi2, rfl, _, hlo2, _⟩ := (hp.mono hM.pre).get T27 rfl T3 rfl hx
  have ho2 := AF T3 rfl hlo2
  cases hxi : within x 0 7 with
  | false =>
   have hb : Fw ps = ([], 2501) := Ua (by rw [List.all_eq_false]; exact ⟨x, List.mem_of_getElem? hx, by rw [hxi]; decide⟩)
   rw [hR] at hb
   subst hb
   by_cases hx0 : x < 0
   ·have d0 : decide (x < 0) = true := decide_eq_true hx0
    clear hxi hx hlo2 hgood hx0
    refine goM ?_
    exact An ⟨rfl, hM.pre⟩
   ·have d0 : decide (x < 0) = false := decide_eq_false hx0
    have d1 : decide (x ≥ 8) = true := decide_eq_true (by
     apply Decidable.byContradiction
     intro hh
     have := within_iff.2 (show 0 ≤ x ∧ x ≤ 7 by omega)
     rw [hxi] at this; cases this)
    clear hxi hx hlo2 hgood hx0
    refine goM ?_
    exact An ⟨rfl, hM.pre⟩
  | true =>
   have wx := XK hxi
   have hxb := within_iff.1 hxi
   have d0 : decide (x < 0) = false := dfG
   have d1 : decide (x ≥ 8) = false := dfG
   have hg2 : ∀ (j : Nat) y, j < k + 1 → ps[j]? = some y → within y 0 7 = true := fun j y hj hy => by
    by_cases hjk : j < k
    ·exact hgood j y hjk hy
    ·obtain rfl : j = k := by omega
     rw [hx] at hy
     cases hy
     exact hxi
   have htk : (Gn ps).take k ++ [[x]] = (Gn ps).take (k + 1) := by
    have : (Gn ps)[k]? = some [x] := by unfold Gn; rw [List.getElem?_map, hx]; rfl
    rw [List.take_add_one, this]; rfl
   have hal : ((Gn ps).take k).length ≤ n := by rw [List.length_take]; omega
   clear hxi hx hlo2 hgood hxb
   refine goM ?_
   refine Aa EO [x] [.int .u8 x] T68 rfl T5 rfl (Cells.one (sz := 1) rfl rfl) (by decide) fun e1 H1 hM => ?_
   refine goM ?_
   refine BC (NU eLk (hM.sl .here)) ?_
   refine goM ?_
   refine Aa bsC [[x]] [.str (strOf [x])] T70 rfl T9 rfl (Cells.one (sz := 1) rfl rfl) (by decide) fun e2 H2 hM => ?_
   refine goM ?_
   refine Bg (hM.sl .here) (xs := (Gn ps).take k) (hh := .there (.there .here)) (hb := by simp only [List.length_cons, List.length_nil]; have : (T 9).get!.bytes = 16 := rfl; omega) fun u2 H3 hM => ?_
   rw [htk] at hM
   replace hM := hM.drop.drop
   clear htk
   refine goM ?_
   exact ⟨n - (k + 1), by omega, k + 1, u2, hk', rfl, hg2, hM, by simp [AD, AB, *]⟩
 ·have dk : decide ((k : Int) < (n : Int)) = false := dfG
  have hall : (ps.all fun x => within x 0 7) = true := by
   rw [List.all_eq_true]
   intro x hx
   obtain ⟨j, hj⟩ := List.mem_iff_getElem?.1 hx
   have := (List.getElem?_eq_some_iff.1 hj).1
   exact hgood j x (by omega) hj
  rw [List.take_of_length_le (by rw [QC]; omega)] at hM
  clear hgood
  by_cases h256 : 256 < n
  ·have d1 : decide ((n : Int) > 256) = true := dtG
   have hb := Sf hall (by omega)
   rw [hR] at hb
   subst hb
   clear hall
   refine goM ?_
   exact An ⟨rfl, hM.pre⟩
  ·have d1 : decide ((n : Int) > 256) = false := dfG
   have hb := Se hall (by omega)
   rw [hR] at hb
   subst hb
   have c1 := kR h u (Gn ps) (hM.sl .here) (fun s hs => by rw [XJ ps s hs]; omega) (XI hall) (by rw [QC]; omega) (by rw [OC _ (XJ ps), QC]; omega)
   clear hall
   refine goM ?_
   refine AA c1 ?_
   refine goM ?_
   exact An ⟨rfl, hM.pre⟩
theorem mF {c : Cfg} {A : List (List Int)} {k : Nat} (h : ∀ j s, j < k → A[j]? = some s → Iv c s = false) (hk : k = A.length ∨ ∃ s, A[k]? = some s ∧ Iv c s = true) : A.takeWhile (fun s => !Iv c s) = A.take k := by
 rw [PI]
 congr 1
 rcases hk with rfl | ⟨s, hs, ho⟩
 ·apply Nat.le_antisymm List.findIdx_le_length
  apply Nat.le_of_not_lt
  intro hlt
  have h1 := List.findIdx_getElem (xs := A) (p := Iv c) (w := hlt)
  rw [h _ _ hlt (List.getElem?_eq_getElem hlt)] at h1
  cases h1
 ·have hkl := (List.getElem?_eq_some_iff.1 hs).1
  have hse := (List.getElem?_eq_some_iff.1 hs).2
  rcases Nat.lt_trichotomy (A.findIdx (Iv c)) k with hlt | heq | hgt
  ·have hlt2 : A.findIdx (Iv c) < A.length := by omega
   have h1 := List.findIdx_getElem (xs := A) (p := Iv c) (w := hlt2)
   rw [h _ _ hlt (List.getElem?_eq_getElem hlt2)] at h1
   cases h1
  ·exact heq
  ·have h1 := List.not_of_lt_findIdx (xs := A) (p := Iv c) (i := k) hgt
   rw [hse] at h1
   exact absurd ho (by simpa using h1)
theorem mJ (H : Heap) (c : Cfg) (rv : V) (t : List Int) (hr : Rows H rv c.rows) (ho : okB t) (hl : t.length ≤ 2 ^ 47) :
  ∃ w H', Call Tryz.prog 53 [.agg (BJ c rv), .str (strOf t)] H w H' ∧ Mem H H' [.own 1 AH w (Uh c (Pr t))] := by
 have s0 : rv.cells = [rv] ∧ rv.isTup = false := by obtain ⟨_, h, _⟩ := hr; exact h.cells
 refine Ao fit mixed Tryz.func53 rfl rfl rfl (by kernel_rfl) fun hM => ?_
 refine AO (AK ?_)
 refine Ax T26 fun b2 H1 hM => ?_
 obtain ⟨_, H3, c1, u, rfl, m1⟩ := mL H1 t ho hl
 have hul := (m1.sl .here).len T70 rfl
 have hok := Wu ho
 unfold Uh
 obtain ⟨ss, hss⟩ : ∃ ss, Pr t = ss := ⟨_, rfl⟩
 rw [hss] at m1 hul hok ⊢
 obtain ⟨n, hn⟩ : ∃ n, ss.length = n := ⟨_, rfl⟩
 rw [hn] at hul
 clear hss
 have hrow := hM.row (b := b2) (cs := BJ c rv) hsG
 have hpre := m1.pre
 generalize (loadN (t.take 65536) 65537 0).2 = to at *
 refine goM ?_
 refine AA c1 ?_
 have hsl := m1.sl .here
 replace hM := hM.BH m1
 clear c1 m1
 have lm : loadV T 3 H3 b2 0 = some (.int .i64 c.m) := CX hpre (AU (q := 0) T3 rfl hrow (v := .int .i64 c.m) rfl)
 have hM0 : Held (H <+: H3) := hM.pre
 clear hrow hpre
 refine goM ?_
 have hN := (Mem.start H3).nil 1 AH
 refine iV (fun ρ h => ∃ u, Mem H3 h [.own 1 AH u (((ss.take 256).takeWhile fun s => !Iv c s).map fun s => s.headD 0)] ∧ ρ 7 = u) ?_ ?_
 ·refine AT (fun cc ρ h => ∃ (k : Nat) (v : V), k ≤ n ∧ k ≤ 256 ∧ cc = 256 - k ∧ (∀ j s, j < k → ss[j]? = some s → Iv c s = false) ∧ Mem H3 h [.own 1 AH v ((ss.take k).map fun s => s.headD 0)] ∧ ρ 2 = .ptr b2 0 ∧ ρ 5 = u ∧ ρ 7 = v ∧ ρ 8 = .int .i64 (k : Int)) ⟨0, .AN, Nat.zero_le _, Nat.zero_le _, rfl, (fun j s hj => absurd hj (Nat.not_lt_zero _)), hN, by simp [AD, AB, BT, *]⟩ ?_
  repeat clear hM
  clear hN
  rintro _ ρ h ⟨k, v, hk, hk6, rfl, hgood, hM, g2, g5, g7, g8⟩
  have hvl := (hM.sl .here).len T27 rfl
  have hvl2 : ((ss.take k).map fun s => s.headD 0).length = k := by rw [List.length_map, List.length_take]; omega
  rw [hvl2] at hvl
  have fin : ∀ (hd : k = (ss.take 256).length ∨ ∃ s, (ss.take 256)[k]? = some s ∧ Iv c s = true), Mem H3 h [.own 1 AH v (((ss.take 256).takeWhile fun s => !Iv c s).map fun s => s.headD 0)] := fun hd => by
   rw [mF (k := k) (fun j s hj hs => by
    rw [List.getElem?_take] at hs
    split at hs
    ·exact hgood j s hj hs
    ·cases hs) hd, List.take_take, Nat.min_eq_left hk6]
   exact hM
  by_cases hkn : k < n
  ·have dk : decide ((k : Int) < (n : Int)) = true := dtG
   by_cases hk256 : k < 256
   ·have d6 : decide ((k : Int) < 256) = true := dtG
    have hw := AG (n := k) (by omega)
    obtain ⟨e, he⟩ : ∃ e, ss[k]? = some e := ⟨ss[k]'(by omega), by simp⟩
    have he2 : (ss.take 256)[k]? = some e := by rw [List.getElem?_take, if_pos hk256]; exact he
    obtain ⟨b5, o5, _, hi5, rfl, _, hlo5, _⟩ := (hsl.mono hM.pre).get T70 rfl T9 rfl he
    have ho5 := AF T9 rfl hlo5
    have hob := hok e (List.mem_of_getElem? he)
    have hes := HV e
    have lm2 := CX hM.pre lm
    cases hod : Iv c e with
    | true =>
     have hfin := fin (.inr ⟨e, he2, hod⟩)
     clear fin hgood he he2 hlo5 hvl2
     unfold Iv at hod
     by_cases h1 : e.length = 1
     ·obtain ⟨x, rfl⟩ := List.length_eq_one_iff.1 h1
      replace hes : builtinP T .len [9] [.str (strOf [x])] = some (.int .i64 1) := hes
      have hxb := hob x List.mem_cons_self
      have wx : IntKind.i64.wrap x = x := wzG
      have dx : decide (x ≥ c.m) = true := by simpa using hod
      clear hod h1
      refine goM ?_
      first | refine CU (ED 0 eLk eLk rfl hob rfl) ?_ | refine BC (ED 0 eLk eLk rfl hob rfl) ?_
      refine goM ?_
      exact ⟨v, hfin, by simp [AD, AB, *]⟩
     ·have hd1 : ((e.length : Int) != 1) = true := by simp; omega
      clear hod
      refine goM ?_
      exact ⟨v, hfin, by simp [AD, AB, *]⟩
    | false =>
     obtain ⟨x, rfl, hx⟩ := bI hod
     replace hes : builtinP T .len [9] [.str (strOf [x])] = some (.int .i64 1) := hes
     have hxb := hob x List.mem_cons_self
     have wx : IntKind.i64.wrap x = x := wzG
     have dx : decide (x ≥ c.m) = false := by
      unfold Iv at hod
      simpa using hod
     have hg2 : ∀ j s, j < k + 1 → ss[j]? = some s → Iv c s = false := fun j s hj hs => by
      by_cases hjk : j < k
      ·exact hgood j s hjk hs
      ·obtain rfl : j = k := by omega
       rw [he] at hs
       cases hs
       exact hod
     have htk : ((ss.take k).map fun s => s.headD 0) ++ [x] = (ss.take (k + 1)).map fun s => s.headD 0 := by
      rw [List.take_add_one, he, List.map_append]; rfl
     clear fin hod hx hgood he he2 hlo5
     refine goM ?_
     first | refine CU (ED 0 eLk eLk rfl hob rfl) ?_ | refine BC (ED 0 eLk eLk rfl hob rfl) ?_
     refine goM ?_
     refine BC (ED 0 eLk eLk rfl hob rfl) ?_
     refine goM ?_
     refine Aa AH [x] [.int .i64 x] T27 rfl T3 rfl (Ba [x]) (by decide) fun e1 H4 hM => ?_
     refine goM ?_
     refine Bg (hM.sl .here) (xs := (ss.take k).map fun s => s.headD 0) (hh := .there .here) (hb := by simp only [List.length_cons, List.length_nil]; omega) fun v2 H5 hM => ?_
     rw [htk] at hM
     replace hM := hM.drop
     clear htk
     refine goM ?_
     exact ⟨256 - (k + 1), by omega, k + 1, v2, by omega, by omega, rfl, hg2, hM, by simp [AD, AB, *]⟩
   ·have d6 : decide ((k : Int) < 256) = false := dfG
    have hfin := fin (.inl (by rw [List.length_take]; omega))
    clear fin hgood
    refine goM ?_
    exact ⟨v, hfin, by simp [AD, AB, *]⟩
  ·have dk : decide ((k : Int) < (n : Int)) = false := dfG
   have hfin := fin (.inl (by rw [List.length_take]; omega))
   clear fin hgood
   refine goM ?_
   exact ⟨v, hfin, by simp [AD, AB, *]⟩
 ·repeat clear hM
  clear hN
  rintro ρ h ⟨v, hM, g7⟩
  have hM1 : H <+: H3 := hM0
  refine goM ?_
  exact AY (((Mem.start H).grow hM1).BH hM)
theorem mB (H : Heap) (c : Cfg) (rv : V) (t : List Int) (hr : Rows H rv c.rows) (cf : c.Fit) (ho : okB t) (hl : t.length ≤ 2 ^ 47) :
  ∃ w H', Call Tryz.prog 22 [.agg (BJ c rv), .str (strOf t)] H w H' ∧ KD H (EX c t) w H' := by
 have s0 : rv.cells = [rv] ∧ rv.isTup = false := by obtain ⟨_, h, _⟩ := hr; exact h.cells
 have l1 := cf.rows
 have l2 := cf.row
 refine Ao fit mixed Tryz.func22 rfl rfl rfl (by kernel_rfl) fun hM => ?_
 refine AO (AK ?_)
 refine Ax T26 fun b2 H1 hM => ?_
 refine Aj (cs := Au) T32 rfl fun b4 H2 hM => ?_
 have c0 := EA H2 c rv (hr.mono hM.pre) (by omega) (fun r hr => by have := l2 r hr; omega)
 cases hc : Al c with
 | false =>
  rw [hc] at c0
  have hbad := RQ (t := t) hc
  clear hc
  refine goM ?_
  refine AA c0 ?_
  refine goM ?_
  refine AM T32 fun H3 hM => ?_
  refine goM ?_
  exact An (Eu hM hbad)
 | true =>
  rw [hc] at c0
  rw [RP hc]
  clear hc
  obtain ⟨u, H3, c1, m1⟩ := mJ H2 c rv t (hr.mono hM.pre) ho hl
  have hpl : (Uh c (Pr t)).length ≤ 256 := by
   unfold Uh
   rw [List.length_map]
   have h1 := (List.takeWhile_sublist (fun s => !Iv c s) (l := (Pr t).take 256)).length_le
   have h2 : ((Pr t).take 256).length ≤ 256 := by rw [List.length_take]; omega
   omega
  obtain ⟨_, H4, c3, q, rfl, k3, m3⟩ := gK H3 c rv u (Uh c (Pr t)) (hr.mono (hM.pre.trans m1.pre)) cf (m1.sl .here) (by omega)
  clear hpl
  generalize FH c (Uh c (Pr t)) = A at *
  refine goM ?_
  refine AA c0 ?_
  refine goM ?_
  refine Be c1 (.inl m1.pre) ?_
  replace hM := hM.BH m1
  clear c0 c1 m1
  refine goM ?_
  refine Be c3 (.inl m3.pre) ?_
  replace hM := hM.BH m3
  clear c3 m3
  refine goM ?_
  first | refine DT T32 fun H5 hM => ?_ | refine AM T32 fun H5 hM => ?_
  refine goM ?_
  exact An ⟨q, rfl, k3, hM.Ea⟩
theorem jV (c : Cfg) (ps : List Int) : (∃ e : Int, (e == 0) = false ∧ FH c ps = (DN, e)) ∨ (∃ s, Al c = true ∧ ps.length ≤ 256 ∧ GA c ps = some s ∧ DO c s ∧ FH c ps = (s, 0)) := by
 cases hok : JS c ps with
 | false => exact .inl ⟨2500, rfl, Lb hok⟩
 | true =>
  have h := hok
  unfold JS at h
  rw [Bool.and_eq_true, decide_eq_true_eq] at h
  cases hr : GA c ps with
  | none => exact .inl ⟨2501, rfl, by unfold FH; rw [hok, if_pos rfl, hr]⟩
  | some s => exact .inr ⟨s, h.1, h.2, rfl, bT h.1 hr, by unfold FH; rw [hok, if_pos rfl, hr]⟩
def lN (u : V) (es ms : List Int) : Fact where
 S c := u.blk = some c
 p H := Tt 1 AH H u es ms
 st H H' h hf := by
  obtain ⟨b, cap, t, cs, wr, rfl, h1, h2, h3⟩ := h
  exact ⟨b, cap, t, cs, wr, rfl, h1, (hf b rfl).trans h2, h3⟩
 lt H c h hc := by
  obtain ⟨b, cap, t, cs, wr, rfl, h1, h2, h3⟩ := h
  cases hc
  exact (List.getElem?_eq_some_iff.1 h2).1
theorem lR (H : Heap) (v : V) (es : List Int) (hes : Sl 1 AH H v es) (hl : (es.length + 2) * 8 ≤ 2 ^ 47) : ∃ u H', Call Tryz.prog 15 [v] H u H' ∧ Mem H H' [.ro (lN u es [-7777, -8888])] := by
 suffices h : ∃ u H', (H <+: H' ∧ Tt 1 AH H' u es [-7777, -8888] ∧ ∀ c, u.blk = some c → H.length ≤ c) ∧ Call Tryz.prog 15 [v] H u H' by
  obtain ⟨u, H', ⟨h1, h2, h3⟩, h4⟩ := h
  exact ⟨u, H', h4, Mem.eM h1 h2 h3⟩
 refine CY fit mixed Tryz.func15 rfl rfl rfl (by kernel_rfl) ?_
 have hlen := hes.len T27 rfl
 obtain ⟨u1, H1, hcall, hm1, b1, hb1, hb2⟩ := lX H v es hes (by omega)
 have hm : Cells 1 AH [.int .i64 (-7777), .int .i64 (-8888)] [-7777, -8888] := Cells.cons (cs := [_]) rfl rfl (Cells.one rfl rfl)
 obtain ⟨hp1, hm1⟩ := hm1
 rcases hm1 with ⟨rfl, _⟩ | ⟨b, hb, ho1⟩
 ·cases hb1
 have ho1' := ho1.pre (List.prefix_append H1 [.row [.int .i64 (-7777), .int .i64 (-8888)] true])
 obtain ⟨u2, b2, H2, ha, ho2, hf, hb2⟩ := Ka (ie := (T 3).get!) ho1' rfl hm ⟨hl, by simp; omega⟩
 have hp2 : H <+: H2 := hf.pre (hp1.trans (List.prefix_append _ _)) hb
 have hpl := hp1.length_le
 obtain ⟨u, hu, hlent, hub⟩ := ho2.mO
 have hbl : ∀ c, u.blk = some c → H.length ≤ c := fun c hc => by
  rw [hub] at hc
  cases hc
  simp at hb2
  omega
 clear hes hl hb2
 refine goW ?_
 refine AA hcall ?_
 refine goW ?_
 refine EG (OQ T27 rfl (by decide) rfl) ha ?_
 refine goW ?_
 refine AL (by simp only [resRf, resRs, resR]; first | done | rfl) ⟨hp2, hlent, hbl⟩
def slen {D : Type} : DataW D → Nat
 | .slice xs _ => xs.length
 | _ => 0
theorem Rd.mK {α : Type} {K : Heap} {D : Type} {t e : Nat} {i : TI} {v : V} {d : DataW D} {sz : Nat} {R : List V → α → Prop} {xs : List α} (hT : T t = some i) (hk : i.k = .slice e) (h : Rd T K t [v] d) (hs : Sl sz R K v xs) : xs.length ≤ slen d := by
 cases h with
 | AN =>
  rcases hs with ⟨_, rfl⟩ | ⟨_, _, _, _, _, _, q, _⟩
  ·exact Nat.zero_le _
  ·cases q
 | slc h hk' he hl =>
  rcases hs with ⟨q, _⟩ | ⟨_, _, _, _, _, _, q, _⟩
  ·cases q
  ·injection q with _ _ q
   exact Nat.le_of_eq (q.symm.trans hl.symm)
 | int h hk' => rw [hT] at h; cases h; rw [hk] at hk'; cases hk'
 | bool h hk' => rw [hT] at h; cases h; rw [hk] at hk'; cases hk'
 | str h hk' => rw [hT] at h; cases h; rw [hk] at hk'; cases hk'
 | strct h hk' => rw [hT] at h; cases h; rw [hk] at hk'; cases hk'
theorem lO {c : Cfg} (cf : c.Fit) (ps : List Int) : (FH c ps).1.Fit := by
 rcases jV c ps with ⟨e, _, h⟩ | ⟨s, _, _, _, hst, h⟩ <;> rw [h]
 ·exact eP
 ·exact bU cf hst
theorem lI {c : Cfg} (cf : c.Fit) (t : List Int) : (EX c t).1.Fit := by
 unfold EX
 split
 ·exact lO cf _
 ·exact eP
theorem lV {s : St} (sf : s.Fit) : (Gw s).1.Fit := by
 unfold Gw
 split
 ·rename_i h
  exact Uf (kI (Eh h)) sf.c
 ·exact eP
set_option maxRecDepth 4000 in
theorem law_runs {D : Type} (K : Heap) (vs : List V) (ds : List (DataW D)) (hn : ∀ d ∈ ds, slen d ≤ 1048576) (ro : Ro K) (h : RdAll T K [26, 27, 9, 32] vs ds) : ∃ K', Call Tryz.prog 3 vs K (.bool true) K' := by
 obtain ⟨v1, vs, d1, ds, rfl, rfl, hv1, h⟩ := Un h
 obtain ⟨v2, vs, d2, ds, rfl, rfl, hv2, h⟩ := Un h
 obtain ⟨v3, vs, d3, ds, rfl, rfl, hv3, h⟩ := Un h
 obtain ⟨v4, vs, d4, ds, rfl, rfl, hv4, h⟩ := Un h
 obtain ⟨rfl, rfl⟩ := XQ h
 obtain ⟨c, rv, rfl, hr, cf⟩ := XR hv1
 obtain ⟨ps, hps, _⟩ := RO hv2
 have hpl : ps.length ≤ 1048576 := Nat.le_trans ((hv2.plain T27 rfl).mK T27 rfl hps) (hn d2 (by simp))
 obtain ⟨g, rfl, hg⟩ := iF hv3
 obtain ⟨t, rfl, ho, hl⟩ : ∃ t, g = strOf t ∧ okB t ∧ t.length ≤ 2 ^ 47 := ⟨lG g, (lM g).symm, lS g, by rw [lQ]; exact Nat.le_trans hg (by decide)⟩
 obtain ⟨s, rw_, mv, ev, sv, xs, rfl, ha, sf⟩ := ZU hv4
 clear hv1 hv2 hv3 hv4 h hn hg
 have s3 : rv.cells = [rv] ∧ rv.isTup = false := by obtain ⟨_, h, _⟩ := hr; exact h.cells
 obtain ⟨z1, z2, z3, z4⟩ := ha.Ga
 have s5 := hps.cells
 obtain ⟨R, e1, hR⟩ : ∃ r e, FH c ps = (r, e) := ⟨_, _, rfl⟩
 obtain ⟨C, e3, hC⟩ : ∃ r e, EX c t = (r, e) := ⟨_, _, rfl⟩
 obtain ⟨W, e4, hW⟩ : ∃ r e, Gw s = (r, e) := ⟨_, _, rfl⟩
 have ft1 := lO cf ps
 have ft2 := lI cf t
 have ft3 := lV sf
 rw [hR] at ft1
 rw [hC] at ft2
 rw [hW] at ft3
 have hJ1 := fun H v hp => Pp H v ps hp (by omega)
 have hJ2 := fun H v hp => lY H v ps hp (by omega)
 have hD1 := fun H rv mv ev sv xs ha => UJ H s rv mv ev sv xs ha sf
 have hD2 := fun H rv mv ev sv xs ha => hU H s rv mv ev sv xs ha sf
 generalize Fw ps = J at *
 generalize Hn s = dn_ at *
 obtain ⟨J, e2⟩ := J
 obtain ⟨is, e5⟩ := dn_
 simp only at hJ1 hJ2 hD1 hD2
 generalize strOf J = J at *
 refine ⟨K, ?_⟩
 refine AQ fit mixed Tryz.func3 rfl rfl rfl (by kernel_rfl) rfl fun hM => ?_
 refine AO (AK ?_)
 refine Ax T26 fun b4 H1 hM => ?_
 refine Ax T32 fun b7 H2 hM => ?_
 refine goM ?_
 obtain ⟨_, H3, c1, u, xv, rfl, hlk, m1⟩ := Qc H2 c rv (hr.mono hM.pre) cf
 refine Be c1 (.inl m1.pre) ?_
 have s4 : u.cells = [u] ∧ u.isTup = false := by obtain ⟨_, h, _⟩ := DL (m1.fact .here) hlk; exact h.cells
 replace hM := hM.BH m1
 clear c1 m1
 refine goM ?_
 obtain ⟨up, H4, c1, m1⟩ := lR H3 v2 ps (hps.mono hM.pre) (by omega)
 have s6 := (Tt.sl (m1.fact (F := lN up ps [-7777, -8888]) .here)).cells
 refine Be c1 (.inl m1.pre) ?_
 replace hM := hM.BH m1
 clear c1 m1
 refine goM ?_
 obtain ⟨_, H5, c1, q0, rfl, k0, m1⟩ := gZ H4 s rw_ mv ev sv xs (ha.mono hM.pre) sf
 refine Be c1 (.inl m1.pre) ?_
 obtain ⟨y1, y2, y3, y4⟩ := (k0.at_ m1).Ga
 replace hM := hM.BH m1
 clear c1 m1
 refine goM ?_
 refine IZ (cs := Cj) T26 rfl fun b9 H6 hM => ?_
 refine IZ (cs := Au) T32 rfl fun b11 H7 hM => ?_
 refine DT T26 fun H8 hM => ?_
 refine goM ?_
 refine DT T32 fun H9 hM => ?_
 refine goM ?_
 obtain ⟨_, H10, c1, qa, rfl, ka, m1⟩ := Zb hR H9 (DL (hM.fact (F := pack (Bl u xv c.rows)) hsG) hlk) cf (Tt.sl (hM.fact (F := lN up ps [-7777, -8888]) hsG)) (by omega)
 refine AA c1 ?_
 replace hM := hM.BH m1
 clear c1 m1
 refine goM ?_
 refine Aj (cs := Au) T32 rfl fun b12 H11 hM => ?_
 refine AM T32 fun H12 hM => ?_
 refine goM ?_
 obtain ⟨_, H13, c1, qb, rfl, kb, m1⟩ := eZ hR H12 (hr.mono hM.pre) cf (hps.mono hM.pre) (by omega)
 refine AA c1 ?_
 replace hM := hM.BH m1
 clear c1 m1
 refine goM ?_
 refine Aj (cs := Au) T32 rfl fun b14 H14 hM => ?_
 refine AM T32 fun H15 hM => ?_
 refine goM ?_
 refine AA (hJ1 H15 up (Tt.sl (hM.fact (F := lN up ps [-7777, -8888]) hsG))) ?_
 refine goM ?_
 refine AA (hJ2 H15 v2 (hps.mono hM.pre)) ?_
 refine goM ?_
 obtain ⟨_, H16, c1, qc, rfl, kc, m1⟩ := gJ hC H15 (DL (hM.fact (F := pack (Bl u xv c.rows)) hsG) hlk) cf ho hl
 refine AA c1 ?_
 replace hM := hM.BH m1
 clear c1 m1
 refine goM ?_
 refine Aj (cs := Au) T32 rfl fun b20 H17 hM => ?_
 refine AM T32 fun H18 hM => ?_
 refine goM ?_
 obtain ⟨_, H19, c1, h2⟩ := mB H18 c rv t (hr.mono hM.pre) cf ho hl
 obtain ⟨qd, rfl, kd, m1⟩ := aH hC h2
 refine AA c1 ?_
 replace hM := hM.BH m1
 clear c1 m1 h2
 refine goM ?_
 refine Aj (cs := Au) T32 rfl fun b22 H20 hM => ?_
 refine AM T32 fun H21 hM => ?_
 refine goM ?_
 obtain ⟨_, H22, c1, qe, rfl, ke, m1⟩ := cG hW H21 (k0.at_ hM) sf
 refine AA c1 ?_
 replace hM := hM.BH m1
 clear c1 m1
 refine goM ?_
 refine Aj (cs := Au) T32 rfl fun b24 H23 hM => ?_
 refine AM T32 fun H24 hM => ?_
 refine goM ?_
 obtain ⟨_, H25, c1, h2⟩ := gR H24 _ _ _ _ _ _ (ha.mono hM.pre) sf
 obtain ⟨qf, rfl, kf, m1⟩ := aH hW h2
 refine AA c1 ?_
 replace hM := hM.BH m1
 clear c1 m1 h2
 refine goM ?_
 refine Aj (cs := Au) T32 rfl fun b26 H26 hM => ?_
 refine AM T32 fun H27 hM => ?_
 refine goM ?_
 refine AA (hD1 H27 _ _ _ _ _ (k0.at_ hM)) ?_
 refine goM ?_
 refine AA (hD2 H27 _ _ _ _ _ (ha.mono hM.pre)) ?_
 refine goM ?_
 have sm1 := fC H27 R (ka.at_ hM) (kb.at_ hM) ft1
 have sm2 := fC H27 C (kc.at_ hM) (kd.at_ hM) ft2
 have sm3 := fC H27 W (ke.at_ hM) (kf.at_ hM) ft3
 have n6 : (is != is) = false := by cases is <;> rfl
 have hsame := mH J
 clear hJ1 hJ2 hD1 hD2
 refine goM ?_
 refine AA sm1 ?_
 refine goM ?_
 refine AA (MM _ _) ?_
 refine goM ?_
 repeat (first | (refine CG ?_; refine BO ?_; refine BC (EC eLk eLk hsame) ?_) | (refine Bs ?_; refine OE ?_) | (refine Bz ?_; refine Nq ?_) | (refine CG ?_; first | refine BO ?_ | refine At ?_ | refine KU ?_) | (refine CF ?_; first | refine BS ?_ | refine Aw ?_ | refine KJ ?_) | (refine IU ?_; first | refine Gc ?_ | refine IT ?_) | refine AO ?_ | refine AK ?_ | refine Ae (by decide +kernel) ?_ | refine AW ?_ | refine BN ?_ | refine BM ?_ | refine Ah ?_ | refine As ?_ | refine Ag ?_ | refine AR ?_ | refine Ar ?_ | refine Ad ?_ | refine AS ?_ | refine Aq ?_ | refine Ac ?_ | refine AV rfl ?_)
 refine AA (MM _ _) ?_
 refine goM ?_
 refine AA sm2 ?_
 refine goM ?_
 refine AA (MM _ _) ?_
 refine goM ?_
 refine AA sm3 ?_
 refine goM ?_
 refine AA (MM _ _) ?_
 refine goM ?_
 refine AA (MM _ _) ?_
 refine goM ?_
 clear sm1 sm2 sm3 hsame
 obtain ⟨_, H28, c2, rfl, hM2⟩ := lL hM ka ft1
 refine AA c2 ?_
 clear c2 hM
 have hM := hM2
 clear hM2
 refine goM ?_
 obtain ⟨_, H29, c2, rfl, hM2⟩ := lL hM kc ft2
 refine AA c2 ?_
 clear c2 hM
 have hM := hM2
 clear hM2
 refine goM ?_
 obtain ⟨_, H30, c2, rfl, hM2⟩ := lL hM ke ft3
 refine AA c2 ?_
 clear c2 hM
 have hM := hM2
 clear hM2
 refine goM ?_
 have c1 := TV H30 c u rv (DL (hM.fact (F := pack (Bl u xv c.rows)) hsG) hlk) (hr.mono hM.pre) (by have := cf.rows; omega) (fun r hr => by have := cf.row r hr; omega)
 refine AA c1 ?_
 clear c1
 have c1 := lZ H30 up v2 ps ps (hM.fact (F := lN up ps [-7777, -8888]) hsG) (hps.mono hM.pre) (by omega)
 rw [decide_eq_true rfl] at c1
 refine goM ?_
 refine AA c1 ?_
 clear c1
 have c1 := fC H30 s (k0.at_ hM) (ha.mono hM.pre) sf
 refine goM ?_
 refine AA c1 ?_
 refine goM ?_
 refine AA (YB _) ?_
 refine goM ?_
 exact AY ⟨rfl, hM.pre⟩
end Go.Proofs.YtncjbjlmgnjhiaaGreat.VM
