/- Joined texts: InsA, InsB, InsC, StoreC, StoreD, StoreE, StoreF, TrainG, StoreG, StoreL, MembD, MembE. -/
import Derived.Test.YtaofdhgkgklppaaGreatJB3
import Derived.Test.YtaofdhgkgklppaaGreatJB4
import Derived.Test.YtaofdhgkgklppaaGreatJB6
import Derived.Test.YtaofdhgkgklppaaGreatJB7
import Derived.WalkKit
import Derived.RegionTactic
import Derived.Deep.RegionLaw
import Derived.Lib.Overlaps
import Derived.Shelf.Spec.SlicesInsert
namespace Go.Proofs.YtaofdhgkgklppaaGreat.VM
open Go Go.RowKit Go.Lib
set_option linter.unusedVariables false
set_option linter.unusedSimpArgs false
set_option maxHeartbeats 8000000
set_option maxRecDepth 100000 in
theorem insert_walk (B o n c i B2 o2 c2 : Nat) (w w1 w2 : World) (hi : i < n) (hn : n ≤ 64) (hc : n + 1 ≤ c)
  (hov : ∀ lb cb, (callFunc 220 #[.slice (some ⟨B2, o2, none⟩) 1 c2, .slice (some ⟨B, o + (i + 1) * 3, none⟩) lb cb]).run Tryz.prog w = .ok (.value (.bool false)) w)
  (hcp1 : ∀ ty, (Builtin.copy_ #[31, 31] ty #[.slice (some ⟨B, o + (i + 1) * 3, none⟩) (n - i) (c - (i + 1)), .slice (some ⟨B, o + i * 3, none⟩) (n + 1 - i) (c - i)]).run Tryz.prog w.drew = .ok (.int .i64 (n - i : Nat)) w1)
  (hcp2 : ∀ ty, (Builtin.copy_ #[31, 31] ty #[.slice (some ⟨B, o + i * 3, none⟩) (n + 1 - i) (c - i), .slice (some ⟨B2, o2, none⟩) 1 c2]).run Tryz.prog w1 = .ok (.int .i64 1) w2) :
  Calls Tryz.prog 194 #[.slice (some ⟨B, o, none⟩) n c, .int .i64 i, .slice (some ⟨B2, o2, none⟩) 1 c2] w fun e w' => e = .returned (.slice (some ⟨B, o, none⟩) (n + 1) c) ∧ w' = w2 := by
 have hz2 : ¬ ((i : Int) = (n : Int)) := by omega
 have hw1 : IntKind.i64.wrap ((i : Int) + 1) = (i : Int) + 1 := wrap_i64 (by omega) (by omega)
 have hw2 : IntKind.i64.wrap ((n : Int) + 1) = (n : Int) + 1 := wrap_i64 (by omega) (by omega)
 have hb3 : (i : Int) ≤ (n : Int) + 1 := by omega
 have hin : i ≤ n := by omega
 have hb1 : (0 : Int) ≤ (i : Int) + 1 := by omega
 have hb2 : ¬ (c = i + 1) := by omega
 have hb4 : ¬ (c = i) := by omega
 have htn : ((i : Int) + 1).toNat = i + 1 := by omega
 go_enter Tryz.func194, Tryz.ntmps194
 go_wp2_with (simp only [hov])
 have mixed' := mixed
 go_region_law_o (refine step_copy_runI rfl _ _ 31 31 rfl _ _ (by simp [Act.eval, Act.put]) (by simp [Act.eval, Act.put]) (hcp1 _) ?_)
 go_wp2_with (at_builtin; refine wpList_copy_runI _ rfl _ _ 31 31 rfl _ _ rfl rfl (hcp2 _) ?_)
 go_ret
 exact ⟨rfl, rfl⟩
end Go.Proofs.YtaofdhgkgklppaaGreat.VM
namespace Go.Proofs.YtaofdhgkgklppaaGreat.VM
open Go
set_option linter.unusedVariables false
set_option linter.unusedSimpArgs false
attribute [local irreducible] wq wqL wqD wqE wqO Th Bk EndR
set_option maxHeartbeats 8000000
def insCells (cs ds : List V) (i n : Nat) : List V := cs.take (i * 3) ++ ds ++ (cs.drop (i * 3)).take ((n - i) * 3)
theorem Cells.drop {α : Type} {sz : Nat} {R : List V → α → Prop} {cs : List V} {xs : List α} (h : Cells sz R cs xs) (n : Nat) (hn : n ≤ xs.length) : Cells sz R (cs.drop (n * sz)) (xs.drop n) := by
 refine ⟨by rw [List.length_drop, List.length_drop, h.1, Nat.sub_mul], fun k x hk => ?_⟩
 rw [List.getElem?_drop] at hk
 have := h.2 _ x hk
 rw [List.drop_drop, ← Nat.add_mul]
 exact this
theorem ins_cells {cs : List V} {es : List Ent} {e : Ent} {i : Nat} (h : At0 3 entC cs es) (hi : i ≤ es.length) : Cells 3 entC (insCells cs (entV e) i es.length) (es.take i ++ e :: es.drop i) := by
 have h1 := h.2.take i hi
 have h2 := h.2.drop i hi
 have e1 : (cs.take (es.length * 3)).take (i * 3) = cs.take (i * 3) := by rw [List.take_take, Nat.min_eq_left (Nat.mul_le_mul_right _ hi)]
 have e2 : (cs.take (es.length * 3)).drop (i * 3) = (cs.drop (i * 3)).take ((es.length - i) * 3) := by rw [List.drop_take, Nat.sub_mul]
 rw [e1] at h1
 rw [e2] at h2
 unfold insCells
 rw [List.append_assoc]
 exact h1.app (Cells.cons (x := e) rfl rfl h2)
theorem shape_of {w : World} {B j : Nat} {cv : Value} (h : w.cell? ⟨B, j, none⟩ = some cv) : ∃ t k, w.shape? B = some (t, k) ∧ j < k := by
 unfold World.cell? at h
 unfold World.shape?
 split at h
 ·rename_i c e fr he
  simp only [Option.isSome_none, Bool.false_eq_true, if_false] at h
  simp only at he
  rw [he]
  exact ⟨e, c.size, rfl, (Array.getElem?_eq_some_iff.1 h).1⟩
 ·cases h
theorem entry_fit : ∃ q, Tryz.prog.info? 73 = some q ∧ q.size = 3 := by
 obtain ⟨q, z, hq, q1, _⟩ := (fit _ _ T73).info
 exact ⟨q, hq, q1⟩
theorem ents_und : Tryz.prog.underlying 31 = some (.slice 73) := (fit _ _ T31).kind
theorem insert_shift {μ : Mu} {H : Heap} {w : World} (s : Sim μ H w) {b b2 : Nat} {cs ds : List V} {n i c cap2 : Nat} {t2 : Bool} {cu : Value} {x : Loc} (hx : μ b = some x) (hb : H[b]? = some (.row cs true)) (hcs : n * 3 ≤ cs.length) (hi : i < n) (hn : n ≤ 64) (hc : n + 1 ≤ c) (hxn : c * 3 ≤ x.n)
  (hu : VR μ (.slc b2 0 1 cap2 t2 3) cu) (hb2 : H[b2]? = some (.row ds true)) (hds : 3 ≤ ds.length) (hcap2 : 1 ≤ cap2) (hne : b ≠ b2) :
  Calls Tryz.prog 194 #[.slice (some ⟨x.B, x.o, none⟩) n c, .int .i64 i, cu] w fun e w' => ∃ cv μ', e = .returned cv ∧ VR μ' (.slc H.length 0 (n + 1) (n + 1) false 3) cv ∧ Sim μ' (H.set b .dead ++ [Blk.row (insCells cs (ds.take 3) i n) true]) w' ∧ Tr μ H w μ' (H.set b .dead ++ [Blk.row (insCells cs (ds.take 3) i n) true]) w' := by
 obtain ⟨q, hq, hq3⟩ := entry_fit
 have hu0 := hu
 simp only [VR] at hu
 obtain ⟨a2, c2, rfl, k1, k2, k3, k45⟩ := hu
 rcases k45 with ⟨_, q2⟩ | ⟨x2, oo, hx2, rfl, k4, k5⟩
 ·omega
 obtain rfl := k5 (by omega)
 obtain ⟨e1, e2⟩ := s.ext b x cs true hx hb
 obtain ⟨f1, f2⟩ := s.ext b2 x2 ds true hx2 hb2
 have hB : x2.B ≠ x.B := s.sole b x _ hx hb rfl b2 x2 _ (fun e => hne e.symm) hx2 hb2 (by simp)
 -- overlaps
 obtain ⟨u2, hu2⟩ := f2 0 (by omega)
 obtain ⟨tA, kA, hsa, hka⟩ := shape_of hu2
 obtain ⟨u1, hu1⟩ := e2 0 (by omega)
 obtain ⟨tB, kB, hsb, hkb⟩ := shape_of hu1
 have hfa : w.frozen? ⟨x2.B, x2.o + 0, none⟩ = false := s.free b2 x2 ds hx2 hb2 0
 have hfe : w.frozen? ⟨x2.B, kA, none⟩ = false := by
  have := s.free b2 x2 ds hx2 hb2 (kA - x2.o)
  rwa [show x2.o + (kA - x2.o) = kA by omega] at this
 have hov : ∀ lb cb, (callFunc 220 #[.slice (some ⟨x2.B, x2.o + 0, none⟩) 1 c2, .slice (some ⟨x.B, x.o + (i + 1) * 3, none⟩) lb cb]).run Tryz.prog w = .ok (.value (.bool false)) w := fun lb cb => by
  rw [run_callFunc_extern Tryz.func220 (by kernel_rfl) (by kernel_rfl) (by kernel_rfl) (e := Extern.SlicesOverlaps.overlaps #[31, 31] #[4]) (by kernel_rfl),
   Lib.run_overlaps_apart w 31 4 73 ents_und 3 (fun w => by rw [run_size hq, hq3]) ⟨x2.B, x2.o + 0, none⟩ ⟨x.B, x.o + (i + 1) * 3, none⟩ 1 c2 lb cb hB tA tB kA kB hsa hsb (by omega) hfa hfe]
  rfl
 -- the first copy
 have hm1 : (i + 1) * 3 ≤ n * 3 := Nat.mul_le_mul_right _ hi
 have hm2 : (n - i) * 3 = n * 3 - i * 3 := Nat.sub_mul ..
 have hm3 : (n + 1) * 3 ≤ c * 3 := Nat.mul_le_mul_right _ hc
 have hm4 : (c - i) * 3 = c * 3 - i * 3 := Nat.sub_mul ..
 have hl : H.loadN b (i * 3) ((n - i) * 3) = some ((cs.drop (i * 3)).take ((n - i) * 3)) := by
  unfold Heap.loadN
  rw [hb]
  simp only
  rw [if_pos (by omega)]
 have hv1 : VR μ (.slc b (i * 3) (n + 1 - i) (n + 1 - i) false 3) (.slice (some ⟨x.B, x.o + i * 3, none⟩) (n + 1 - i) (c - i)) := by
  simp only [VR]
  exact ⟨_, c - i, rfl, Nat.le_refl _, by omega, nofun, .inr ⟨x, i * 3, hx, rfl, by omega, fun _ => rfl⟩⟩
 obtain ⟨ws, g1, g2, g3⟩ := firstCells_sound (P := Tryz.prog) (n := n - i) (size := 3) s.drew hv1 (by omega) (.inl hl)
 have hwl : ws.size = (n - i) * 3 := by
  have := g2.length
  simp only [Array.length_toList, List.length_take, List.length_drop] at this
  omega
 have hws1 : ∀ v ∈ ws.toList, v.oneCell' = true := fun v hv => by
  obtain ⟨j, hj⟩ := List.mem_iff_getElem?.1 hv
  have hjl := (List.getElem?_eq_some_iff.1 hj).1
  obtain ⟨y, hy⟩ : ∃ y, ((cs.drop (i * 3)).take ((n - i) * 3))[j]? = some y := ⟨_, List.getElem?_eq_getElem (by have := g2.length; omega)⟩
  obtain ⟨u, hu', hr'⟩ := g2.get hy
  rw [hj] at hu'
  cases hu'
  exact one' hr' (g3 _ (List.mem_of_getElem? hy))
 obtain ⟨w1, r1, r2, r3, r4, r5, r6, r7, r8, r9, r10⟩ := run_storeCells_ext Tryz.prog x.B ws.toList (x.o + (i + 1) * 3) 0 w.drew hws1 (fun j _ hj => by
  have hj' : j < (n - i) * 3 := by rw [← hwl]; simpa using hj
  rw [show x.o + (i + 1) * 3 + j = x.o + ((i + 1) * 3 + j) by omega]
  exact ⟨e2 _ (by omega), s.free b x cs hx hb _⟩)
 have hcp1 : ∀ ty, (Builtin.copy_ #[31, 31] ty #[.slice (some ⟨x.B, x.o + (i + 1) * 3, none⟩) (n - i) (c - (i + 1)), .slice (some ⟨x.B, x.o + i * 3, none⟩) (n + 1 - i) (c - i)]).run Tryz.prog w.drew = .ok (.int .i64 (n - i : Nat)) w1 := fun ty => by
  have hlenOf : (Builtin.lenOf (.slice (some ⟨x.B, x.o + i * 3, none⟩) (n + 1 - i) (c - i))).run Tryz.prog w.drew = .ok (n + 1 - i) w.drew := rfl
  have hmin : Nat.min (n + 1 - i) (n - i) = n - i := Nat.min_eq_right (by omega)
  unfold Builtin.copy_
  simp only [List.getElem?_toArray, List.getElem?_cons_zero, List.getElem?_cons_succ, run_und ents_und, Sem.run_bind, Result.andThen_ok, hlenOf, Sem.run_pure, run_size hq, hq3, hmin]
  rw [g1 w.drew rfl]
  simp only [Result.andThen_ok, r1, Sem.run_bind, Sem.run_pure]
  rfl
 -- behind it
 obtain ⟨sk, tk⟩ := sim_kill s hb
 obtain ⟨A1, hA1⟩ : ∃ A1, cs.take ((i + 1) * 3) ++ (cs.drop (i * 3)).take ((n - i) * 3) = A1 := ⟨_, rfl⟩
 have hA1l : A1.length = (n + 1) * 3 := by rw [← hA1, List.length_append, List.length_take, List.length_take, List.length_drop]; omega
 have hK : (H.set b Blk.dead).length = H.length := by simp
 have S1 : Sim (μ.put H.length ⟨x.B, x.o + 0, x.n - 0⟩) (H.set b .dead ++ [Blk.row A1 true]) w1 := by
  rw [← hK]
  refine sim_alias sk.drew (s.lt b x hx).2 ?_ r6 r7 (Nat.zero_le _) (by omega) (fun j hj => r5 _ (e2 j hj)) (fun j => by rw [r4]; exact s.free b x cs hx hb j) ?_
  ·intro b' x' k' hx' hk hd
   rcases get_set hk with ⟨_, rfl⟩ | ⟨hne', hk'⟩
   ·exact absurd rfl hd
   ·exact s.sole b x _ hx hb rfl b' x' k' hne' hx' hk' hd
  ·intro j v hj
   rw [← hA1] at hj
   by_cases hjl : j < (i + 1) * 3
   ·rw [List.getElem?_append_left (by rw [List.length_take]; omega), List.getElem?_take, if_pos hjl] at hj
    obtain ⟨p1, cv, p2, p3⟩ := s.row b x cs true hx hb j v hj
    refine ⟨p1, cv, ?_, p3⟩
    rw [Nat.add_zero, r3 _ (.inl (by omega))]
    exact p2
   ·rw [List.getElem?_append_right (by rw [List.length_take]; omega), List.length_take, Nat.min_eq_left (by omega)] at hj
    obtain ⟨u, hu', hr'⟩ := g2.get hj
    refine ⟨g3 v (List.mem_of_getElem? hj), u, ?_, hr'⟩
    have := r2 _ _ hu'
    rw [show x.o + (i + 1) * 3 + (0 + (j - (i + 1) * 3)) = x.o + 0 + j by omega] at this
    exact this
 have hlb : b < H.length := (List.getElem?_eq_some_iff.1 hb).1
 have T1 : Tr μ H w (μ.put H.length ⟨x.B, x.o + 0, x.n - 0⟩) (H.set b .dead ++ [Blk.row A1 true]) w1 := by
  refine ⟨Mu.le_put _ s.none_len, fun b' x' hx' hno => ?_, fun b' k hk => ?_, by rw [r7]; exact Nat.le_refl _, fun B hB' hno => ?_, by rw [r8]; rfl, by rw [r9]; rfl, by rw [r10]; rfl⟩
  ·by_cases hb' : b' = H.length
   ·subst hb'
    rw [Mu.put_same] at hx'
    obtain rfl := Option.some.inj hx'
    refine ⟨Nat.le_refl _, .inr ⟨b, x, _, hx, rfl, hb, rfl, ?_⟩⟩
    rw [List.getElem?_append_left (by simp [hlb])]
    exact set_get _ hb
   ·rw [Mu.put_ne _ hb'] at hx'
    rw [hx'] at hno; cases hno
  ·obtain ⟨k', hk', hle⟩ := stay_set hb (k := .dead) (by simp [Blk.Le]) b' k hk
   have hlt : b' < H.length := (List.getElem?_eq_some_iff.1 hk).1
   exact ⟨k', by rw [List.getElem?_append_left (by simp [hlt])]; exact hk', hle⟩
  ·rw [r6 B (fun e => hno b x _ hx hb rfl e.symm)]; rfl
 -- the second copy
 have hmu1 : (μ.put H.length ⟨x.B, x.o + 0, x.n - 0⟩) H.length = some ⟨x.B, x.o + 0, x.n - 0⟩ := Mu.put_same _ _ _
 have hd2 : VR (μ.put H.length ⟨x.B, x.o + 0, x.n - 0⟩) (.slc H.length (i * 3) (n + 1 - i) (n + 1 - i) false 3) (.slice (some ⟨x.B, x.o + i * 3, none⟩) (n + 1 - i) (c - i)) := by
  simp only [VR]
  exact ⟨_, c - i, rfl, Nat.le_refl _, by omega, nofun, .inr ⟨_, i * 3, hmu1, rfl, by simp only; omega, fun _ => rfl⟩⟩
 have hg2 : (H.set b .dead ++ [Blk.row A1 true])[b2]? = some (.row ds true) := by
  have hlt : b2 < H.length := (List.getElem?_eq_some_iff.1 hb2).1
  rw [List.getElem?_append_left (by simp [hlt]), List.getElem?_set_ne hne]
  exact hb2
 have hgN : (H.set b .dead ++ [Blk.row A1 true])[H.length]? = some (.row A1 true) := by
  rw [List.getElem?_append_right (by simp)]; simp
 have hl2 : Heap.loadN (H.set b .dead ++ [Blk.row A1 true]) b2 0 (1 * 3) = some (ds.take 3) := by
  unfold Heap.loadN
  rw [hg2]
  simp only
  rw [if_pos (by omega)]; rfl
 have hst2 : Heap.storeN (H.set b .dead ++ [Blk.row A1 true]) H.length (i * 3) (ds.take 3) = some ((H.set b .dead ++ [Blk.row A1 true]).set H.length (Blk.row (setL A1 (i * 3) (ds.take 3)) true)) := by
  unfold Heap.storeN
  rw [hgN]
  simp only
  rw [if_pos (by rw [List.length_take]; omega)]
 have hcv : copyV { k := .strct [], size := 3, bytes := 0, zero := [] } (.slc H.length (i * 3) (n + 1 - i) (n + 1 - i) false 3) (.slc b2 0 1 cap2 t2 3) (H.set b .dead ++ [Blk.row A1 true]) = some (.int .i64 1, (H.set b .dead ++ [Blk.row A1 true]).set H.length (Blk.row (setL A1 (i * 3) (ds.take 3)) true)) := by
  unfold copyV
  have hmin : Nat.min 1 (n + 1 - i) = 1 := Nat.min_eq_left (by omega)
  simp only [hmin]
  rw [if_neg (by decide), hl2]
  simp only
  rw [hst2]
  rfl
 obtain ⟨ie, hie, hisz⟩ : ∃ ie, T 73 = some ie ∧ ie.size = 3 := ⟨_, T73, rfl⟩
 have hcv2 : copyV ie (.slc H.length (i * 3) (n + 1 - i) (n + 1 - i) false 3) (.slc b2 0 1 cap2 t2 3) (H.set b .dead ++ [Blk.row A1 true]) = some (.int .i64 1, (H.set b .dead ++ [Blk.row A1 true]).set H.length (Blk.row (setL A1 (i * 3) (ds.take 3)) true)) := by
  rw [← hcv]
  unfold copyV
  simp only [hisz]
 have hcp2all := fun ty => copy_sound (ty := ty) (t1 := 31) (t2 := 31) fit S1 ents_und hie hd2 (hu0.mono T1.ext) hcv2
 obtain ⟨cv2, w2, μ2, h1, h2, h3, h4⟩ := hcp2all 3
 have hcp2 : ∀ ty, (Builtin.copy_ #[31, 31] ty #[.slice (some ⟨x.B, x.o + i * 3, none⟩) (n + 1 - i) (c - i), .slice (some ⟨x2.B, x2.o + 0, none⟩) 1 c2]).run Tryz.prog w1 = .ok (.int .i64 1) w2 := fun ty => by
  have : cv2 = .int .i64 1 := by simpa only [VR] using h2
  rw [← this]
  exact h1
 have hfin : (H.set b .dead ++ [Blk.row A1 true]).set H.length (Blk.row (setL A1 (i * 3) (ds.take 3)) true) = H.set b .dead ++ [Blk.row (insCells cs (ds.take 3) i n) true] := by
  have hins : setL A1 (i * 3) (ds.take 3) = insCells cs (ds.take 3) i n := by
   have hd3 : (ds.take 3).length = 3 := by rw [List.length_take]; omega
   rw [setL_tail (by rw [hd3]; omega), ← hA1, hd3]
   unfold insCells
   rw [List.take_append_of_le_length (by rw [List.length_take]; omega), List.take_take, Nat.min_eq_left (by omega)]
   rw [show i * 3 + 3 = (cs.take ((i + 1) * 3)).length by rw [List.length_take]; omega, List.drop_left]
  rw [hins]
  rw [show H.length = (H.set b Blk.dead).length from hK.symm]
  exact List.set_append_right _ _ (Nat.le_refl _) |>.trans (by rw [Nat.sub_self]; rfl)
 rw [hfin] at h3 h4
 refine (insert_walk x.B x.o n c i x2.B (x2.o + 0) c2 w w1 w2 hi hn hc hov hcp1 hcp2).mono ?_
 rintro e w' ⟨rfl, rfl⟩
 refine ⟨_, μ2, rfl, ?_, h3, T1.trans h4 (fun b x h => (s.lt b x h).1)⟩
 simp only [VR]
 exact ⟨_, c, rfl, Nat.le_refl _, by omega, nofun, .inr ⟨_, 0, h4.ext _ _ hmu1, rfl, by simp only; omega, fun _ => rfl⟩⟩
theorem s_copy {ρ : Rho} {h h' : Heap} {a b v : V} {xs : Array Operand} {t1 t2 e e2 : Nat} {i i2 ie : TI} (hx : evs ρ.ev xs.toList = some [a, b]) (hT : T t1 = some i) (hk : i.k = .slice e) (hE : T e = some ie) (hT2 : T t2 = some i2) (hk2 : i2.k = .slice e2) (hc : copyV ie a b h = some (v, h')) : Does T ρ h (.call { callee := .builtin .copy, args := xs, argTypes := #[t1, t2] }) v h' := by
 obtain ⟨k, size, bytes, zero, cmp⟩ := i
 obtain ⟨k', size', bytes', zero', cmp'⟩ := i2
 simp only at hk hk2
 subst hk; subst hk2
 refine does_mem rfl ?_ ?_
 ·simp only [pureOp, hx]; rfl
 ·simp only [memOp, hx, hT, hT2, hE]
  exact hc
theorem zero_ent : ∃ ie, T 73 = some ie ∧ ie.size = 3 ∧ ie.zero.length = 3 ∧ ie.bytes = 32 := ⟨_, T73, rfl, rfl, rfl⟩
theorem insert_full (H : Heap) (b b2 n i cap2 : Nat) (t2 : Bool) (cs ds : List V) (hb : H[b]? = some (.row cs true)) (hcs : n * 3 ≤ cs.length) (hi : i < n) (hn : n ≤ 64) (hb2 : H[b2]? = some (.row ds true)) (hds : 3 ≤ ds.length) :
  Call Tryz.prog 194 [.slc b 0 n n true 3, .int .i64 (i : Int), .slc b2 0 1 cap2 t2 3] H (.slc H.length 0 (n + 1) (n + 1) false 3) (H ++ [Blk.row (insCells cs (ds.take 3) i n) true]) := by
 suffices hgoal : ∃ w H', (w = .slc H.length 0 (n + 1) (n + 1) false 3 ∧ H' = H ++ [Blk.row (insCells cs (ds.take 3) i n) true]) ∧ Call Tryz.prog 194 [.slc b 0 n n true 3, .int .i64 (i : Int), .slc b2 0 1 cap2 t2 3] H w H' by
  obtain ⟨w, H', ⟨rfl, rfl⟩, h⟩ := hgoal
  exact h
 refine call_wq fit mixed Tryz.func194 rfl rfl rfl (by kernel_rfl) ?_
 obtain ⟨ie, hie, hsz, hzl, hby⟩ := zero_ent
 have hm1 : (i + 1) * 3 ≤ n * 3 := Nat.mul_le_mul_right _ hi
 have hm2 : (n - i) * 3 = n * 3 - i * 3 := Nat.sub_mul ..
 have c10 : (((1 : Nat) : Int) == 0) = false := by decide
 have wn1' : IntKind.i64.wrap ((n : Int) + ((1 : Nat) : Int)) = ((n + 1 : Nat) : Int) := by rw [wrap_i64 (by omega) (by omega)]; omega
 have wi1' : IntKind.i64.wrap ((i : Int) + ((1 : Nat) : Int)) = ((i + 1 : Nat) : Int) := by rw [wrap_i64 (by omega) (by omega)]; omega
 have hzn : ((n : Int) == (i : Int)) = false := by simp; omega
 have hzi : ((i : Int) == (n : Int)) = false := by simp; omega
 have wn1 : IntKind.i64.wrap ((n : Int) + 1) = ((n + 1 : Nat) : Int) := by rw [wrap_i64 (by omega) (by omega)]; omega
 have wi1 : IntKind.i64.wrap ((i : Int) + 1) = ((i + 1 : Nat) : Int) := by rw [wrap_i64 (by omega) (by omega)]; omega
 have wd : IntKind.i64.wrap (((n + 1 : Nat) : Int) - (i : Int)) = ((n + 1 - i : Nat) : Int) := by rw [wrap_i64 (by omega) (by omega)]; omega
 have hgt : decide (((n + 1 : Nat) : Int) > (n : Int)) = true := decide_eq_true (by omega)
 have s1 : sliceV 3 (.slc b 0 n n true 3) (some (.int .i64 (i : Int))) none none = some (.slc b (i * 3) (n - i) (n - i) true 3) := by
  simp only [sliceV, boundV, Option.isSome_none, Bool.false_and, Bool.false_eq_true, if_false, ne_eq, not_true_eq_false]
  rw [if_pos (by omega)]
  simp
 have s2 : sliceV 3 (.slc b 0 n n true 3) none (some (.int .i64 (i : Int))) none = some (.slc b 0 i n true 3) := by
  simp only [sliceV, boundV, Option.isSome_none, Bool.false_and, Bool.false_eq_true, if_false, ne_eq, not_true_eq_false]
  rw [if_pos (by omega)]
  simp
 obtain ⟨Z, hZ⟩ : ∃ Z, zeros ie.zero (n + 1 - i) = Z := ⟨_, rfl⟩
 have hZl : Z.length = (n + 1 - i) * 3 := by rw [← hZ, zeros_length, hzl]
 have hm3 : (n + 1 - i) * 3 = (n + 1) * 3 - i * 3 := Nat.sub_mul ..
 have hnews : newsOf T ie 3 (.int .i64 ((n + 1 - i : Nat) : Int)) H = some (n + 1 - i, Z) := by
  unfold newsOf
  simp only [T3]
  rw [if_pos ⟨by omega, by rw [hby]; omega, by simp only [IntKind.max, IntKind.signed, IntKind.bits]; simp; omega⟩]
  rw [Int.toNat_natCast, hZ]
 obtain ⟨A0, hA0⟩ : ∃ A0, cs.take (i * 3) ++ Z = A0 := ⟨_, rfl⟩
 have hA0l : A0.length = (n + 1) * 3 := by rw [← hA0, List.length_append, List.length_take, hZl]; omega
 have hload : H.loadN b 0 (i * 3) = some (cs.take (i * 3)) := by
  unfold Heap.loadN
  rw [hb]
  simp only
  rw [if_pos (by omega)]; rfl
 have happ : appendV ie (.slc b 0 i n true 3) (n + 1 - i) Z H = some (.slc H.length 0 (n + 1) (n + 1) false 3, H ++ [Blk.row A0 true]) := by
  unfold appendV
  rw [if_neg (by rw [hZl, hsz]; simp)]
  simp only
  rw [if_neg (by rw [hsz]; simp), if_neg (by omega), if_pos ⟨by rw [hby]; omega, by omega⟩, hsz, hb, hload]
  simp only [if_true, hA0]
  rw [show i + (n + 1 - i) = n + 1 by omega]
 obtain ⟨H1, hH1⟩ : ∃ H1, H ++ [Blk.row A0 true] = H1 := ⟨_, rfl⟩
 rw [hH1] at happ
 have g1 : H1[H.length]? = some (.row A0 true) := by rw [← hH1]; simp
 have hlt1 : H.length < H1.length := (List.getElem?_eq_some_iff.1 g1).1
 have hlb : b < H.length := (List.getElem?_eq_some_iff.1 hb).1
 have hlb2 : b2 < H.length := (List.getElem?_eq_some_iff.1 hb2).1
 have gb1 : H1[b]? = some (.row cs true) := by rw [← hH1, List.getElem?_append_left hlb]; exact hb
 have gb2 : H1[b2]? = some (.row ds true) := by rw [← hH1, List.getElem?_append_left hlb2]; exact hb2
 have s3 : sliceV 3 (.slc H.length 0 (n + 1) (n + 1) false 3) (some (.int .i64 (i : Int))) none none = some (.slc H.length (i * 3) (n + 1 - i) (n + 1 - i) false 3) := by
  simp only [sliceV, boundV, Option.isSome_none, Bool.false_and, Bool.false_eq_true, if_false, ne_eq, not_true_eq_false]
  rw [if_pos (by omega)]
  simp
 have s4 : sliceV 3 (.slc H.length 0 (n + 1) (n + 1) false 3) (some (.int .i64 ((i + 1 : Nat) : Int))) none none = some (.slc H.length ((i + 1) * 3) (n - i) (n - i) false 3) := by
  simp only [sliceV, boundV, Option.isSome_none, Bool.false_and, Bool.false_eq_true, if_false, ne_eq, not_true_eq_false]
  rw [if_pos (by omega)]
  simp [Nat.succ_sub_succ]
 obtain ⟨A1, hA1⟩ : ∃ A1, setL A0 (i * 3) (ds.take 3) = A1 := ⟨_, rfl⟩
 have hA1l : A1.length = (n + 1) * 3 := by rw [← hA1, setL_length]; exact hA0l
 have hd3 : (ds.take 3).length = 3 := by rw [List.length_take]; omega
 have k1 : copyV ie (.slc H.length (i * 3) (n + 1 - i) (n + 1 - i) false 3) (.slc b2 0 1 cap2 t2 3) H1 = some (.int .i64 1, H1.set H.length (.row A1 true)) := by
  unfold copyV
  have hmin : Nat.min 1 (n + 1 - i) = 1 := Nat.min_eq_left (by omega)
  have hl : H1.loadN b2 0 3 = some (ds.take 3) := by
   unfold Heap.loadN
   rw [gb2]
   simp only
   rw [if_pos (by omega)]; rfl
  have hst : H1.storeN H.length (i * 3) (ds.take 3) = some (H1.set H.length (.row A1 true)) := by
   unfold Heap.storeN
   rw [g1]
   simp only
   rw [if_pos (by rw [hd3]; omega), hA1]
  simp only [hmin, hsz, Nat.one_mul]
  rw [if_neg (by decide), hl]
  simp only
  rw [hst]
  rfl
 obtain ⟨H2, hH2⟩ : ∃ H2, H1.set H.length (.row A1 true) = H2 := ⟨_, rfl⟩
 rw [hH2] at k1
 have g2 : H2[H.length]? = some (.row A1 true) := by rw [← hH2, List.getElem?_set_self hlt1]
 have hlt2 : H.length < H2.length := by rw [← hH2, List.length_set]; exact hlt1
 have gc2 : H2[b]? = some (.row cs true) := by rw [← hH2, List.getElem?_set_ne (by omega)]; exact gb1
 obtain ⟨X, hX⟩ : ∃ X, (cs.drop (i * 3)).take ((n - i) * 3) = X := ⟨_, rfl⟩
 have hXl : X.length = (n - i) * 3 := by rw [← hX, List.length_take, List.length_drop]; omega
 have hfin : setL A1 ((i + 1) * 3) X = insCells cs (ds.take 3) i n := by
  rw [← hA1, ← hA0, setL_tail (cs := cs.take (i * 3) ++ Z) (by rw [hd3, hA0, hA0l]; omega)]
  have e1 : (cs.take (i * 3) ++ Z).take (i * 3) = cs.take (i * 3) := by
   rw [List.take_append_of_le_length (by rw [List.length_take]; omega), List.take_take, Nat.min_self]
  rw [e1, hd3]
  have hl1 : (cs.take (i * 3) ++ ds.take 3).length = (i + 1) * 3 := by rw [List.length_append, List.length_take, hd3]; omega
  rw [setL_tail (by rw [List.length_append, hl1, List.length_drop, hA0, hA0l, hXl]; omega)]
  have e2 : (cs.take (i * 3) ++ ds.take 3 ++ (cs.take (i * 3) ++ Z).drop (i * 3 + 3)).take ((i + 1) * 3) = cs.take (i * 3) ++ ds.take 3 := by
   rw [List.take_append_of_le_length (by rw [hl1]; exact Nat.le_refl _), List.take_of_length_le (by rw [hl1]; exact Nat.le_refl _)]
  have e3 : (cs.take (i * 3) ++ ds.take 3 ++ (cs.take (i * 3) ++ Z).drop (i * 3 + 3)).drop ((i + 1) * 3 + X.length) = [] := by
   apply List.drop_eq_nil_of_le
   rw [List.length_append, hl1, List.length_drop, hA0, hA0l, hXl]; omega
  rw [e2, e3, List.append_nil, ← hX]
  rfl
 have k2 : copyV ie (.slc H.length ((i + 1) * 3) (n - i) (n - i) false 3) (.slc b (i * 3) (n - i) (n - i) true 3) H2 = some (.int .i64 ((n - i : Nat) : Int), H2.set H.length (.row (insCells cs (ds.take 3) i n) true)) := by
  unfold copyV
  have hmin : Nat.min (n - i) (n - i) = n - i := Nat.min_self _
  have hl : Heap.loadN H2 b (i * 3) ((n - i) * 3) = some X := by
   unfold Heap.loadN
   rw [gc2]
   simp only
   rw [if_pos (by omega), hX]
  have hst : Heap.storeN H2 H.length ((i + 1) * 3) X = some (H2.set H.length (.row (insCells cs (ds.take 3) i n) true)) := by
   unfold Heap.storeN
   rw [g2]
   simp only
   rw [if_pos (by rw [hXl]; omega), hfin]
  simp only [hmin, hsz]
  rw [if_neg (by omega), hl]
  simp only
  rw [hst]
 have hend : H2.set H.length (.row (insCells cs (ds.take 3) i n) true) = H ++ [Blk.row (insCells cs (ds.take 3) i n) true] := by
  rw [← hH2, List.set_set, ← hH1]
  exact List.set_append_right _ _ (Nat.le_refl _) |>.trans (by rw [Nat.sub_self]; rfl)
 rw [hend] at k2
 clear hend hfin hX hXl g2 hlt2 gc2 hH2 hA1 hA1l hd3 g1 hlt1 gb1 gb2 hH1 hA0 hA0l hload hZ hZl hm1 hm2 hm3 hb hb2 hlb hlb2 hcs hds hi hn hzl hby
 refine goM ?_
 refine l_step (s_append eLk T31 rfl hie hnews happ) ?_
 refine goM ?_
 refine l_step (s_copy eLk T31 rfl hie T31 rfl k1) ?_
 refine goM ?_
 refine d_step (s_copy eLk T31 rfl hie T31 rfl k2) ?_
 refine goM ?_
 refine end_ret (by simp only [resRf, resRs, resR]; first | done | rfl) ⟨?_, rfl⟩
 simp [put_app, put_none]
theorem insert_call (H : Heap) (b b2 n i cap cap2 : Nat) (t t2 : Bool) (cs ds : List V) (hb : H[b]? = some (.row cs true)) (hcs : n * 3 ≤ cs.length) (hi : i < n) (hn : n ≤ 64) (hcap : n ≤ cap) (hb2 : H[b2]? = some (.row ds true)) (hds : 3 ≤ ds.length) (hcap2 : 1 ≤ cap2) (hne : b ≠ b2) :
  Call Tryz.prog 194 [.slc b 0 n cap t 3, .int .i64 (i : Int), .slc b2 0 1 cap2 t2 3] H (.slc H.length 0 (n + 1) (n + 1) false 3) (H.set b .dead ++ [Blk.row (insCells cs (ds.take 3) i n) true]) := by
 have hfull := insert_full H b b2 n i cap2 t2 cs ds hb hcs hi hn hb2 hds
 refine ⟨hfull.1, fun μ w cargs s hv => ?_⟩
 have hv0 := hv
 simp only [VRs] at hv
 obtain ⟨cv, _, he, hcv, ci, _, rfl, hci, cu, _, rfl, hcu, rfl⟩ := hv
 have hcv0 := hcv
 simp only [VR] at hcv hci
 obtain ⟨a, c, rfl, q1, q2, q3, q45⟩ := hcv
 rcases q45 with ⟨_, q4⟩ | ⟨x, o, hx, rfl, q4, q5⟩
 ·omega
 obtain rfl := q5 (by omega)
 have hargs : cargs = #[.slice (some ⟨x.B, x.o + 0, none⟩) n c, ci, cu] := arr_of_list he
 subst hci
 by_cases hcn : c = n
 ·subst hcn
  have hv2 : VRs μ [.slc b 0 c c true 3, .int .i64 (i : Int), .slc b2 0 1 cap2 t2 3] cargs.toList := by
   rw [he]
   simp only [VRs]
   refine ⟨_, _, rfl, ?_, _, _, rfl, VR.mk_int _ _, _, _, rfl, hcu, rfl⟩
   simp only [VR]
   exact ⟨_, c, rfl, Nat.le_refl _, Nat.le_refl _, fun _ => rfl, .inr ⟨x, 0, hx, rfl, q4, fun _ => rfl⟩⟩
  refine (hfull.2 μ w cargs s hv2).mono ?_
  rintro e w' ⟨cv, μ', rfl, h1, h2, h3⟩
  have hlb : b < H.length := (List.getElem?_eq_some_iff.1 hb).1
  have hb' : (H ++ [Blk.row (insCells cs (ds.take 3) i c) true])[b]? = some (.row cs true) := by rw [List.getElem?_append_left hlb]; exact hb
  obtain ⟨k1, k2⟩ := sim_kill h2 hb'
  have hset : (H ++ [Blk.row (insCells cs (ds.take 3) i c) true]).set b Blk.dead = H.set b .dead ++ [Blk.row (insCells cs (ds.take 3) i c) true] := List.set_append_left _ _ hlb
  rw [hset] at k1 k2
  exact ⟨cv, μ', rfl, h1, k1, h3.trans k2 (fun b x h => (s.lt b x h).1)⟩
 ·have := insert_shift s hx hb hcs hi hn (c := c) (by omega) (by omega) hcu hb2 hds hcap2 hne
  rw [hargs]
  exact this
theorem insert_end_ (B H : Heap) (L : List Res) (f : Res → List Res) (v u : V) (es : List Ent) (e : Ent) (hM : Mem B H L) (hh : Has L (.own 3 entC v es) f) (hu : Sl 3 entC H u [e]) (hl : es.length ≤ 64) :
  ∃ w H', Call Tryz.prog 194 [v, .int .i64 (es.length : Int), u] H w H' ∧ Mem B H' (f (.own 3 entC w (es ++ [e]))) := by
 refine call_turn fit mixed hM Tryz.func194 rfl rfl rfl (by kernel_rfl) fun _ => ?_
 obtain ⟨r, hr, _⟩ := (hM.sl hh).rest (l := es.length) (Nat.le_refl _)
 have hl1 := (hM.sl hh).len T31 rfl
 have hl2 := hu.len T31 rfl
 have c10 : ((([e].length : Nat) : Int) == 0) = false := by simp
 refine goM ?_
 refine l_appM hu (xs := es) (hh := hh) (hb := by simp only [List.length_cons, List.length_nil]; omega) fun w H' hM' => ?_
 refine goM ?_
 exact end_1 (by first | exact .inl rfl | exact .inr rfl) hM'
theorem insert_ (B H : Heap) (L : List Res) (f : Res → List Res) (v u : V) (es : List Ent) (e : Ent) (i : Nat) (hM : Mem B H (.own 3 entC u [e] :: L)) (hh : Has L (.own 3 entC v es) f) (hi : i ≤ es.length) (hl : es.length ≤ 64) :
  ∃ w H', Call Tryz.prog 194 [v, .int .i64 (i : Int), u] H w H' ∧ Mem B H' (.own 3 entC u [e] :: f (.own 3 entC w (es.take i ++ e :: es.drop i))) := by
 have hh' := Has.there (s := Res.own 3 entC u [e]) hh
 rcases Nat.lt_or_ge i es.length with hlt | hge
 ·have hv := hM.get hh'
  have hu := hM.get .here
  rcases hv with ⟨_, rfl⟩ | ⟨b, hv⟩
  ·simp at hlt
  rcases hu with ⟨_, h⟩ | ⟨b2, hu⟩
  ·cases h
  have hbv := hv.blk
  have hbu := hu.blk
  have hne : b ≠ b2 := fun e0 => by
   subst e0
   have hmem : Res.own 3 entC v es ∈ L := by
    obtain ⟨L1, L2, rfl, _⟩ := hh.parts
    simp
   exact (List.pairwise_cons.1 hM.sep).1 _ hmem b hbu hbv
  obtain ⟨cap, t, cs, rfl, h1, h2, h3, h4⟩ := hv
  obtain ⟨cap2, t2, ds, rfl, g1, g2, g3, g4⟩ := hu
  have hlb : b < H.length := (List.getElem?_eq_some_iff.1 h2).1
  have hd : ds.take 3 = entV e := by
   have := g4.cell (k := 0) (x := e) rfl
   simpa [entC] using this
  have hds : 3 ≤ ds.length := by have := g4.1; simpa using this
  have hc := insert_call H b b2 es.length i cap cap2 t t2 cs ds h2 (by have := h4.1; omega) hlt hl h1 g2 hds g1 hne
  rw [hd] at hc
  refine ⟨_, _, hc, ?_⟩
  have hcells := ins_cells (e := e) h4 hi
  have hnl : (es.take i ++ e :: es.drop i).length = es.length + 1 := by simp; omega
  refine hM.turn hh' (by simp) (fun c hc hno => ?_) (.inr ⟨H.length, es.length + 1, false, _, by rw [hnl], by rw [hnl]; exact Nat.le_refl _, by rw [List.getElem?_append_right (by simp)]; simp; rfl, by rw [hcells.1, hnl], ?_⟩) (fun c hc => .inr ?_)
  ·rw [List.getElem?_append_left (by simpa using hc), List.getElem?_set_ne (fun e => hno (by subst e; exact hbv))]
  ·refine ⟨by rw [hcells.1]; exact Nat.le_refl _, ?_⟩
   rw [List.take_of_length_le (by rw [hcells.1]; exact Nat.le_refl _)]
   exact hcells
  ·cases hc; exact Nat.le_refl _
 ·obtain rfl : i = es.length := by omega
  rw [List.take_of_length_le (Nat.le_refl _), List.drop_eq_nil_of_le (Nat.le_refl _)]
  exact insert_end_ B H _ _ v u es e hM hh' (hM.sl .here) hl
theorem cloneEnt_ (H : Heap) (v : V) (es : List Ent) (hx : Sl 3 entC H v es) (hl : es.length ≤ 64) : ∃ w H', Call Tryz.prog 134 [v] H w H' ∧ Mem H H' [.own 3 entC w es] := by
 refine call_mem fit mixed Tryz.func134 rfl rfl rfl (by kernel_rfl) fun hM => ?_
 rcases hx with ⟨rfl, rfl⟩ | ⟨b, off, cap, t, cs, wr, rfl, h1, h2, h3, h4⟩
 ·refine goM ?_
  exact end_1 (by first | exact .inl rfl | exact .inr rfl) (hM.nil 3 entC)
 ·have hx : Sl 3 entC H (.slc b off es.length cap t 3) es := .inr ⟨b, off, cap, t, cs, wr, rfl, h1, h2, h3, h4⟩
  clear h1 h2 h3 h4
  refine goM ?_
  refine l_sliceM entC [] [] T31 rfl T73 rfl (cells_ents []) (by decide) fun e1 H3 hM => ?_
  refine goM ?_
  refine l_appM (hx.mono hM.pre) (xs := []) (hb := by simp only [List.length_nil]; omega) fun a H4 hM => ?_
  refine goM ?_
  exact end_1 (by first | exact .inl rfl | exact .inr rfl) hM
theorem bump_at {es : List Ent} {k : Nat} {e : Ent} (d : Int) (h : es[k]? = some e) : bump es k d = es.set k ⟨e.id, e.tx, e.n + d⟩ := by unfold bump; rw [h]
theorem Mem.bump {B H : Heap} {L : List Res} {f : Res → List Res} {v : V} {es : List Ent} {k : Nat} {e : Ent} (hM : Mem B H L) (hh : Has L (.own 3 entC v es) f) (he : es[k]? = some e) (d : Int) {b o : Nat} (hi : idxV T 31 v (k : Int) = some (.ptr b o)) : ∃ H', storeV T 3 H b (o + 2) (.int .i64 (e.n + d)) = some H' ∧ Mem B H' (f (.own 3 entC v (VM.bump es k d))) := by
 obtain ⟨b', hix, hput⟩ := hM.elemAt hh T31 rfl T73 rfl he 2 T3 (by decide)
 rw [hi] at hix
 cases hix
 rw [bump_at d he]
 exact hput (.int .i64 (e.n + d)) ⟨e.id, e.tx, e.n + d⟩ rfl rfl fun cs hl hR => by rw [hR]; rfl
theorem freeFrom_step {es : List Ent} {k : Nat} {e : Ent} (h : es[k]? = some e) : freeFrom (es.drop k) k = if e.id = (k : Int) then freeFrom (es.drop (k + 1)) (k + 1) else k := by
 obtain ⟨hlt, rfl⟩ := List.getElem?_eq_some_iff.1 h
 rw [List.drop_eq_getElem_cons hlt]; rfl
theorem ent_n {es : List Ent} (hs : Store es) {k : Nat} {e : Ent} (h : es[k]? = some e) : 0 ≤ e.n ∧ e.n ≤ 8 := by
 have := hs.ok e (List.mem_of_getElem? h)
 unfold entOk at this
 simp only [Bool.and_eq_true, within_iff] at this
 exact this.2
theorem put15_ (H : Heap) (v : V) (es : List Ent) (s : ByteArray) (hx : Sl 3 entC H v es) (hl : es.length ≤ 2 ^ 47) :
  ∃ w H', Call Tryz.prog 119 [v, .str s] H w H' ∧ ∃ u, w = .tup [u, .int .i64 (putS es s).2.1, .int .i64 (putS es s).2.2] ∧ Mem H H' [.own 3 entC u (putS es s).1] := by
 refine call_mem fit mixed Tryz.func119 rfl rfl rfl (by kernel_rfl) fun hM => ?_
 have c1 := storeMay_ H v es hx hl
 have c2 := text_ H s
 unfold putS
 cases hm : storeMay es with
 | false =>
  rw [hm] at c1
  rw [Bool.false_and, if_pos rfl]
  clear hm c2
  refine goM ?_
  refine l_callG c1 ?_
  refine goM ?_
  exact end_3 (by first | exact .inl rfl | exact .inr rfl) ⟨_, rfl, hM.nil 3 entC⟩
 | true =>
  rw [hm] at c1
  have hs := store_of hm
  cases ht : textOk s with
  | false =>
   rw [ht] at c2
   rw [Bool.and_false, if_pos rfl]
   clear hm ht hs
   refine goM ?_
   refine l_callG c1 ?_
   refine goM ?_
   refine l_callG c2 ?_
   refine goM ?_
   exact end_3 (by first | exact .inl rfl | exact .inr rfl) ⟨_, rfl, hM.nil 3 entC⟩
  | true =>
   rw [ht] at c2
   rw [Bool.and_true, if_neg (by decide)]
   have hn64 := hs.len
   obtain ⟨u, H1, c3, m1⟩ := cloneEnt_ H v es hx hn64
   have c4 := holds_ H1 u es s (m1.sl .here) hl
   have hlen := (m1.sl .here).len T31 rfl
   obtain ⟨n, hn⟩ : ∃ n, es.length = n := ⟨_, rfl⟩
   rw [hn] at hlen hn64
   clear hm ht
   obtain ⟨k, hk⟩ : ∃ k, holdsN es s = k := ⟨_, rfl⟩
   rw [hk]
   cases he : es[k]? with
   | some e =>
    have hkl := (List.getElem?_eq_some_iff.1 he).1
    have hr : holdsR es s = (k : Int) := by unfold holdsR; rw [hk, if_pos hkl]
    rw [hr] at c4
    obtain ⟨hn0, hn8⟩ := ent_n hs he
    obtain ⟨b, o, hie, _, _, _, lo2⟩ := ent_at (m1.sl .here) he
    have dk : decide ((k : Int) ≥ 0) = true := decide_eq_true (by omega)
    have dk2 : decide ((k : Int) < 0) = false := decide_eq_false (by omega)
    have wn : IntKind.i64.wrap (e.n + 1) = e.n + 1 := wrap_i64 (by omega) (by omega)
    obtain ⟨H2, hst, m2⟩ := m1.bump .here he 1 hie
    obtain ⟨_, _, hie', _, lo0, _⟩ := ent_at (m2.sl .here) (k := k) (e := ⟨e.id, e.tx, e.n + 1⟩) (by rw [bump_at 1 he, List.getElem?_set_self hkl])
    rw [hie] at hie'
    cases hie'
    replace hM := hM.call1 m1
    by_cases h8 : e.n = 8
    ·have d8 : (e.n == 8) = true := by rw [h8]; rfl
     simp only [h8, if_true]
     clear hst m1 m2 hn0 hn8 he hr hk hs wn h8 hkl
     refine goM ?_
     refine l_callG c1 ?_
     refine goM ?_
     refine l_callG c2 ?_
     refine goM ?_
     refine l_callG c3 ?_
     refine goM ?_
     refine l_callG c4 ?_
     refine goM ?_
     exact end_3 (by first | exact .inl rfl | exact .inr rfl) ⟨_, rfl, (hM.sub (L' := []) (by simp)).nil 3 entC⟩
    ·have d8 : (e.n == 8) = false := by simpa using h8
     simp only [h8, if_false]
     clear m1 hn0 hn8 he hr hk hs h8 hkl hM
     refine goM ?_
     refine l_callG c1 ?_
     refine goM ?_
     refine l_callG c2 ?_
     refine goM ?_
     refine l_callG c3 ?_
     refine goM ?_
     refine l_callG c4 ?_
     refine goM ?_
     refine l_stM hst ?_
     refine goM ?_
     exact end_3 (by first | exact .inl rfl | exact .inr rfl) ⟨_, rfl, m2⟩
   | none =>
    have hkl : es.length ≤ k := List.getElem?_eq_none_iff.1 he
    have hr : holdsR es s = -1 := by unfold holdsR; rw [hk, if_neg (by omega)]
    rw [hr] at c4
    replace hM := hM.call1 m1
    have hl64 : ((n : Int) == 64) = decide (n = 64) := by
     by_cases h : n = 64
     ·subst h; rfl
     ·rw [decide_eq_false h]; simp; omega
    simp only
    rw [hn]
    by_cases h64 : n = 64
    ·rw [decide_eq_true h64] at hl64
     rw [if_pos h64]
     clear m1 he hr hk hs hkl h64
     refine goM ?_
     refine l_callG c1 ?_
     refine goM ?_
     refine l_callG c2 ?_
     refine goM ?_
     refine l_callG c3 ?_
     refine goM ?_
     refine l_callG c4 ?_
     refine goM ?_
     exact end_3 (by first | exact .inl rfl | exact .inr rfl) ⟨_, rfl, (hM.sub (L' := []) (by simp)).nil 3 entC⟩
    ·rw [decide_eq_false h64] at hl64
     rw [if_neg h64]
     clear m1 he hr hk hs hkl h64
     refine goM ?_
     refine l_callG c1 ?_
     refine goM ?_
     refine l_callG c2 ?_
     refine goM ?_
     refine l_callG c3 ?_
     refine goM ?_
     refine l_callG c4 ?_
     refine goM ?_
     obtain ⟨z, hz⟩ : ∃ z, freeN es = z := ⟨_, rfl⟩
     rw [hz]
     refine wq_loop (fun c ρ h => ∃ k : Nat, k ≤ n ∧ c = n - k ∧ h = H1 ∧ freeFrom (es.drop k) k = z ∧ ρ 1 = .str s ∧ ρ 7 = u ∧ ρ 9 = .int .i64 (k : Int)) ⟨0, Nat.zero_le _, rfl, rfl, hz, rfl, rfl, rfl⟩ ?_
     clear c1 c2 c3 c4
     rintro _ ρ h ⟨k, hk, rfl, rfl, hfr, g1, g7, g9⟩
     have finish : ∀ ρ : Rho, k = z → ρ 1 = .str s → ρ 7 = u → ρ 9 = .int .i64 (k : Int) → Mem H h [.own 3 entC u es] → ∃ d, d = (k : Int) := fun _ _ _ _ _ _ => ⟨_, rfl⟩
     by_cases hkn : k < n
     ·obtain ⟨e, he⟩ : ∃ e, es[k]? = some e := ⟨es[k]'(by omega), by simp⟩
      obtain ⟨b, o, hie, _, lo0, _⟩ := ent_at (hM.sl .here) he
      have dkn : decide ((k : Int) < (n : Int)) = true := decide_eq_true (by omega)
      rw [freeFrom_step he] at hfr
      by_cases hek : e.id = (k : Int)
      ·have dek : (e.id == (k : Int)) = true := by simpa using hek
       rw [if_pos hek] at hfr
       have hw := wrap_succ (n := k) (by omega)
       clear he hek
       refine goM ?_
       exact ⟨n - (k + 1), by omega, k + 1, hkn, rfl, rfl, hfr, by simp [put_app, put_none, *]⟩
      ·have dek : (e.id == (k : Int)) = false := by simpa using hek
       rw [if_neg hek] at hfr
       subst hfr
       clear he hek hz
       refine goM ?_
       refine l_sliceM entC [⟨(k : Int), s, 1⟩] (entV ⟨(k : Int), s, 1⟩) T31 rfl T73 rfl (cells_ents [⟨(k : Int), s, 1⟩]) (by decide) fun e1 H2 hM => ?_
       obtain ⟨w, H3, c5, m5⟩ := insert_ H H2 _ _ u e1 es ⟨(k : Int), s, 1⟩ k hM .here (by omega) (by omega)
       refine goM ?_
       refine l_callG c5 ?_
       refine goM ?_
       exact end_3 (by first | exact .inl rfl | exact .inr rfl) ⟨_, rfl, m5.sub (by (repeat (first | exact List.Sublist.slnil | exact List.Sublist.refl _ | refine List.Sublist.cons_cons _ ?_ | refine List.Sublist.cons _ ?_)))⟩
     ·obtain rfl : k = n := by omega
      have dkn : decide ((k : Int) < (k : Int)) = false := decide_eq_false (by omega)
      rw [List.drop_eq_nil_of_le (by omega)] at hfr
      replace hfr : k = z := hfr
      subst hfr
      clear hz hkn
      refine goM ?_
      refine l_sliceM entC [⟨(k : Int), s, 1⟩] (entV ⟨(k : Int), s, 1⟩) T31 rfl T73 rfl (cells_ents [⟨(k : Int), s, 1⟩]) (by decide) fun e1 H2 hM => ?_
      obtain ⟨w, H3, c5, m5⟩ := insert_ H H2 _ _ u e1 es ⟨(k : Int), s, 1⟩ k hM .here (by omega) (by omega)
      refine goM ?_
      refine l_callG c5 ?_
      refine goM ?_
      exact end_3 (by first | exact .inl rfl | exact .inr rfl) ⟨_, rfl, m5.sub (by (repeat (first | exact List.Sublist.slnil | exact List.Sublist.refl _ | refine List.Sublist.cons_cons _ ?_ | refine List.Sublist.cons _ ?_)))⟩
theorem drop15_ (H : Heap) (v : V) (es : List Ent) (id : Int) (hx : Sl 3 entC H v es) (hl : es.length ≤ 2 ^ 47) :
  ∃ w H', Call Tryz.prog 143 [v, .int .i64 id] H w H' ∧ ∃ u, w = .tup [u, .int .i64 (dropS es id).2] ∧ Mem H H' [.own 3 entC u (dropS es id).1] := by
 refine call_mem fit mixed Tryz.func143 rfl rfl rfl (by kernel_rfl) fun hM => ?_
 have c1 := storeMay_ H v es hx hl
 unfold dropS
 cases hm : storeMay es with
 | false =>
  rw [hm] at c1
  rw [if_pos rfl]
  clear hm
  refine goM ?_
  refine l_callG c1 ?_
  refine goM ?_
  exact end_2 (by first | exact .inl rfl | exact .inr rfl) ⟨_, rfl, hM.nil 3 entC⟩
 | true =>
  rw [hm] at c1
  rw [if_neg (by decide)]
  have hs := store_of hm
  have c2 := find_ H v es id hx hs
  have hn64 := hs.len
  cases hi : isN es id with
  | false =>
   rw [hi] at c2
   rw [find_none hs hi]
   clear hm hs hi
   refine goM ?_
   refine l_callG c1 ?_
   refine goM ?_
   refine l_callG c2 ?_
   refine goM ?_
   exact end_2 (by first | exact .inl rfl | exact .inr rfl) ⟨_, rfl, hM.nil 3 entC⟩
  | true =>
   obtain ⟨e, he, hid, hf⟩ := find_some hs hi
   rw [hi] at c2
   rw [hf, he]
   obtain ⟨hn0, hn8⟩ := ent_n hs he
   obtain ⟨k, hk⟩ : ∃ k, lowN es id = k := ⟨_, rfl⟩
   rw [hk] at c2 he ⊢
   obtain ⟨b, o, hie, _, _, _, lo2⟩ := ent_at hx he
   simp only
   by_cases h0 : e.n = 0
   ·have d0 : (e.n == 0) = true := by rw [h0]; rfl
    rw [if_pos h0]
    clear hm hs hi hf hid hk he h0 hn0 hn8
    refine goM ?_
    refine l_callG c1 ?_
    refine goM ?_
    refine l_callG c2 ?_
    refine goM ?_
    exact end_2 (by first | exact .inl rfl | exact .inr rfl) ⟨_, rfl, hM.nil 3 entC⟩
   ·have d0 : (e.n == 0) = false := by simpa using h0
    rw [if_neg h0]
    obtain ⟨u, H1, c3, m1⟩ := cloneEnt_ H v es hx hn64
    obtain ⟨b', o', hie', _, _, _, lo2'⟩ := ent_at (m1.sl .here) he
    obtain ⟨H2, hst, m2⟩ := m1.bump .here he (-1) hie'
    have wn : IntKind.i64.wrap (e.n - 1) = e.n + -1 := by rw [wrap_i64 (by omega) (by omega)]; omega
    clear hm hs hi hf hid hk he h0 hn0 hn8 m1 hM
    refine goM ?_
    refine l_callG c1 ?_
    refine goM ?_
    refine l_callG c2 ?_
    refine goM ?_
    refine l_callG c3 ?_
    refine goM ?_
    refine l_stM hst ?_
    refine goM ?_
    exact end_2 (by first | exact .inl rfl | exact .inr rfl) ⟨_, rfl, m2⟩
theorem get15_ (H : Heap) (v : V) (es : List Ent) (id : Int) (hx : Sl 3 entC H v es) (hl : es.length ≤ 2 ^ 47) :
  Call Tryz.prog 153 [v, .int .i64 id] H (.tup [.str (getS es id).1, .bool (getS es id).2]) H := by
 refine call_pure fit mixed Tryz.func153 rfl rfl rfl (by kernel_rfl) rfl fun hM => ?_
 have c1 := storeMay_ H v es hx hl
 unfold getS
 cases hm : storeMay es with
 | false =>
  rw [hm] at c1
  rw [if_pos rfl]
  clear hm
  refine goM ?_
  refine l_callG c1 ?_
  refine goM ?_
  exact end_2 (by first | exact .inl rfl | exact .inr rfl) ⟨rfl, List.prefix_refl _⟩
 | true =>
  rw [hm] at c1
  rw [if_neg (by decide)]
  have hs := store_of hm
  have c2 := find_ H v es id hx hs
  cases hi : isN es id with
  | false =>
   rw [hi] at c2
   rw [find_none hs hi]
   clear hm hs hi
   refine goM ?_
   refine l_callG c1 ?_
   refine goM ?_
   refine l_callG c2 ?_
   refine goM ?_
   exact end_2 (by first | exact .inl rfl | exact .inr rfl) ⟨rfl, List.prefix_refl _⟩
  | true =>
   obtain ⟨e, he, hid, hf⟩ := find_some hs hi
   rw [hi] at c2
   rw [hf, he]
   obtain ⟨k, hk⟩ : ∃ k, lowN es id = k := ⟨_, rfl⟩
   rw [hk] at c2 he
   obtain ⟨b, o, hie, _, _, lo1, _⟩ := ent_at hx he
   clear hm hs hi hf hid hk he
   refine goM ?_
   refine l_callG c1 ?_
   refine goM ?_
   refine l_callG c2 ?_
   refine goM ?_
   exact end_2 (by first | exact .inl rfl | exact .inr rfl) ⟨rfl, List.prefix_refl _⟩
def freeE (e : Ent) : Bool := e.n == 0
theorem sweep1_ (H : Heap) (e : Ent) : Call Tryz.prog 189 [.agg (entV e)] H (.bool (freeE e)) H := by
 refine call_pure fit mixed Tryz.func189 rfl rfl rfl (by kernel_rfl) rfl fun hM => ?_
 refine wq_seq (wq_line ?_)
 refine l_boxM T73 fun b1 H1 hM => ?_
 refine goM ?_
 exact end_1 (by first | exact .inl rfl | exact .inr rfl) ⟨rfl, hM.pre⟩
theorem Mem.clearCut {α : Type} {sz : Nat} {R : List V → α → Prop} {B H : Heap} {v : V} {xs : List α} {L : List Res} {f : Res → List Res} (h : Mem B H L) (hh : Has L (.own sz R v xs) f) {t e : Nat} {i ie : TI} (hT : T t = some i) (hk : i.k = .slice e) (hE : T e = some ie) (hs : ie.size = sz) (hz : ie.zero.length = sz) {k : Nat} (hk' : k < xs.length) :
  ∃ u u' H', sliceV sz v (some (.int .i64 (k : Int))) none none = some u ∧ (∀ (ρ : Rho) (x : Operand), ρ.ev x = some u → Does T ρ H (.call { callee := .builtin .clear, args := #[x], argTypes := #[t] }) (.tup []) H') ∧ sliceV sz v none (some (.int .i64 (k : Int))) none = some u' ∧ Mem B H' (f (.own sz R u' (xs.take k))) := by
 rcases h.get hh with ⟨rfl, rfl⟩ | ⟨b, ho⟩
 ·simp at hk'
 have hob := ho.blk
 obtain ⟨cap, t', cs, rfl, g1, g2, g3, g4⟩ := ho
 have hlb : b < H.length := (List.getElem?_eq_some_iff.1 g2).1
 have hm : (xs.length - k) * sz = xs.length * sz - k * sz := Nat.sub_mul ..
 have hkm : k * sz ≤ xs.length * sz := Nat.mul_le_mul_right _ (Nat.le_of_lt hk')
 have hcl := g4.1
 have hzl : (zeros ie.zero (xs.length - k)).length = (xs.length - k) * sz := by rw [zeros_length, hz]
 refine ⟨.slc b (k * sz) (xs.length - k) (cap - k) t' sz, .slc b 0 k cap t' sz, H.set b (.row (setL cs (k * sz) (zeros ie.zero (xs.length - k))) true), ?_, fun ρ x hx => ?_, ?_, ?_⟩
 ·simp only [sliceV, boundV, Option.isSome_none, Bool.false_and, Bool.false_eq_true, if_false, ne_eq, not_true_eq_false]
  rw [if_pos (by omega)]
  simp
 ·obtain ⟨kk, size, bytes, zero, cmp⟩ := i
  simp only at hk
  subst hk
  have hev : evs ρ.ev (#[x] : Array Operand).toList = some [.slc b (k * sz) (xs.length - k) (cap - k) t' sz] := by simp only [evs, hx]
  refine does_mem rfl ?_ ?_
  ·simp only [pureOp, hev]; rfl
  ·simp only [memOp, hev, hT, hE]
   rw [if_neg (by omega)]
   unfold Heap.storeN
   rw [g2]
   simp only
   rw [if_pos (by rw [hzl]; omega)]
   rfl
 ·simp only [sliceV, boundV, Option.isSome_none, Bool.false_and, Bool.false_eq_true, if_false, ne_eq, not_true_eq_false]
  rw [if_pos (by omega)]
  simp
 ·have hkl : (xs.take k).length = k := by rw [List.length_take]; omega
  refine h.turn hh (by simp) (fun c hc hno => by rw [List.getElem?_set_ne (fun e => hno (by subst e; exact hob))]) (.inr ⟨b, cap, t', _, by rw [hkl], by rw [hkl]; omega, by rw [List.getElem?_set_self hlb], by rw [setL_length]; exact g3, ?_⟩) (fun c hc => .inl ?_)
  ·have h1 := g4.2.take k (Nat.le_of_lt hk')
   rw [List.take_take, Nat.min_eq_left hkm] at h1
   refine ⟨by rw [hkl, setL_length]; omega, ?_⟩
   rw [hkl]
   have : (setL cs (k * sz) (zeros ie.zero (xs.length - k))).take (k * sz) = cs.take (k * sz) := by
    rw [setL_tail (by rw [hzl]; omega), List.append_assoc, List.take_append_of_le_length (by rw [List.length_take]; omega), List.take_take, Nat.min_self]
   rw [this]
   exact h1
  ·cases hc; exact hob
theorem filter_step {es : List Ent} {p : Ent → Bool} {j : Nat} {e : Ent} (h : es[j]? = some e) : (es.take (j + 1)).filter p = (es.take j).filter p ++ (if p e = true then [e] else []) := by
 rw [List.take_add_one, h, List.filter_append]
 simp [List.filter_cons]
theorem delete_ (B H : Heap) (L : List Res) (f : Res → List Res) (v : V) (es : List Ent) (hM : Mem B H L) (hh : Has L (.own 3 entC v es) f) (hl : es.length ≤ 64) :
  ∃ w H', Call Tryz.prog 190 [v, .fn 189 []] H w H' ∧ Mem B H' (f (.own 3 entC w (es.filter fun e => !freeE e))) := by
 refine call_turn fit mixed hM Tryz.func190 rfl rfl rfl (by kernel_rfl) fun _ => ?_
 have c1 := indexEnt_ H v es 189 [] freeE (hM.sl hh) (by omega) (fun e _ => sweep1_ H e)
 obtain ⟨n, hn⟩ : ∃ n, es.length = n := ⟨_, rfl⟩
 obtain ⟨k0, hk0⟩ : ∃ k, es.findIdx freeE = k := ⟨_, rfl⟩
 have hkn : k0 ≤ n := by rw [← hk0, ← hn]; exact List.findIdx_le_length
 have hkeep : ∀ (j : Nat) (e : Ent), j < k0 → es[j]? = some e → freeE e = false := fun j e hj he => by
  obtain ⟨hlt, rfl⟩ := List.getElem?_eq_some_iff.1 he
  have := List.not_of_lt_findIdx (xs := es) (p := freeE) (i := j) (by omega)
  simpa using this
 have htk : ∀ k, k ≤ k0 → (es.take k).filter (fun e => !freeE e) = es.take k := fun k hk => by
  apply List.filter_eq_self.2
  intro e he
  obtain ⟨j, hj⟩ := List.mem_iff_getElem?.1 he
  rw [List.getElem?_take] at hj
  split at hj
  ·rw [hkeep j e (by omega) hj]; rfl
  ·cases hj
 unfold idxR at c1
 rw [hk0, hn] at c1
 by_cases hk : k0 < n
 ·rw [if_pos hk] at c1
  have dk : ((k0 : Int) == -1) = false := by
   rw [beq_eq_false_iff_ne]; omega
  have hw0 := wrap_succ (n := k0) (by omega)
  obtain ⟨e0, he0⟩ : ∃ e, es[k0]? = some e := ⟨es[k0]'(by omega), by simp⟩
  have hfe0 : freeE e0 = true := by
   obtain ⟨hlt, rfl⟩ := List.getElem?_eq_some_iff.1 he0
   have := List.findIdx_getElem (xs := es) (p := freeE) (w := by omega)
   simpa [hk0] using this
  have hf0 : (es.take (k0 + 1)).filter (fun e => !freeE e) = es.take k0 := by
   rw [filter_step he0, htk k0 (Nat.le_refl _), hfe0]; simp
  refine goM ?_
  refine l_callG c1 ?_
  refine goM ?_
  refine wq_loop (fun c ρ hp => ∃ (i j : Nat) (ys : List Ent) (L' : List Res), i < j ∧ j ≤ n ∧ c = n - j ∧ ys.length = n ∧ ys.take i = (es.take j).filter (fun e => !freeE e) ∧ ys.drop j = es.drop j ∧ Mem B hp L' ∧ Has L' (.own 3 entC v ys) f ∧ ρ 0 = v ∧ ρ 1 = .fn 189 [] ∧ ρ 5 = .int .i64 (i : Int) ∧ ρ 6 = .int .i64 (j : Int)) ⟨k0, k0 + 1, es, L, Nat.lt_succ_self _, hk, rfl, hn, hf0.symm, rfl, hM, hh, rfl, rfl, rfl, rfl⟩ ?_
  clear hM hh c1 hf0 hfe0 he0 hw0 dk hk htk hkeep hk0 hkn
  rintro _ ρ hp ⟨i, j, ys, L', hij, hjn, rfl, hyl, hti, hdj, hM, hh, g0, g1, g5, g6⟩
  have hlen := (hM.sl hh).len T31 rfl
  rw [hyl] at hlen
  refine goM ?_
  refine cond_go (fun hb => ?_) (fun hb => ?_)
  ·have hj' : j < n := by simpa using hb
   clear hb
   obtain ⟨e, he⟩ : ∃ e, ys[j]? = some e := ⟨ys[j]'(by omega), by simp⟩
   have hee : es[j]? = some e := by
    have h1 : (ys.drop j)[0]? = some e := by rw [List.getElem?_drop]; exact he
    rw [hdj, List.getElem?_drop] at h1
    exact h1
   have hfs := filter_step (p := fun e => !freeE e) hee
   have hdj1 : ys.drop (j + 1) = es.drop (j + 1) := by
    have : (ys.drop j).drop 1 = (es.drop j).drop 1 := by rw [hdj]
    simpa [List.drop_drop] using this
   obtain ⟨b, o, hie, hlo, _⟩ := ent_at (hM.sl hh) he
   have hw := wrap_succ (n := j) (by omega)
   have hwi := wrap_succ (n := i) (by omega)
   refine goM ?_
   refine l_newM (cs := entV ⟨0, ByteArray.empty, 0⟩) T73 rfl fun b3 H3 hM' => ?_
   refine l_putM T73 fun H4 hM' => ?_
   have c2 := sweep1_ H4 e
   cases hfe : freeE e with
   | true =>
    rw [hfe] at c2 hfs
    simp only [Bool.not_true, Bool.false_eq_true, if_false, List.append_nil] at hfs
    rw [← hfs] at hti
    clear hee hdj he hM hlo
    refine goM ?_
    refine l_callG c2 ?_
    refine goM ?_
    exact ⟨n - (j + 1), by omega, i, j + 1, ys, _, by omega, hj', rfl, hyl, hti, hdj1, hM'.drop, hh, by simp [put_app, put_none, *]⟩
   | false =>
    rw [hfe] at c2 hfs
    simp only [Bool.not_false, if_true] at hfs
    rw [← hti] at hfs
    obtain ⟨b5, hi5, hput⟩ := hM'.elem (.there hh) T31 rfl T73 rfl (k := i) (by omega)
    obtain ⟨H5, hst, hM5⟩ := hput (.agg (entV e)) e rfl rfl rfl
    have q1 : (ys.set i e).take (i + 1) = (es.take (j + 1)).filter (fun e => !freeE e) := by
     rw [hfs, List.take_add_one, List.getElem?_set_self (by omega), List.take_set_of_le (Nat.le_refl _)]; rfl
    have q2 : (ys.set i e).drop (j + 1) = es.drop (j + 1) := by
     rw [List.drop_set_of_lt (by omega)]; exact hdj1
    clear hee hdj he hM hlo hfs
    refine goM ?_
    refine l_callG c2 ?_
    refine goM ?_
    refine l_stM hst ?_
    refine goM ?_
    exact ⟨n - (j + 1), by omega, i + 1, j + 1, ys.set i e, _, by omega, hj', rfl, by simpa using hyl, q1, q2, hM5.drop, hh.again _, by simp [put_app, put_none, *]⟩
  ·have hj' : j = n := by have : ¬ j < n := by simpa using hb
                          omega
   subst hj'
   clear hb
   obtain ⟨u, u', H', s1, s2, s3, hM'⟩ := hM.clearCut hh T31 rfl T73 rfl rfl (k := i) (by omega)
   rw [hti, List.take_of_length_le (by omega)] at hM'
   refine goM ?_
   refine l_step (s2 _ _ eLk) ?_
   refine goM ?_
   exact end_1 (by first | exact .inl rfl | exact .inr rfl) hM'
 ·rw [if_neg hk] at c1
  have hall : es.filter (fun e => !freeE e) = es := by
   have := htk n (by omega)
   rw [List.take_of_length_le (by omega)] at this
   exact this
  replace hall : Held (es.filter (fun e => !freeE e) = es) := hall
  clear htk hkeep hk0 hkn hk
  refine goM ?_
  refine l_callG c1 ?_
  refine goM ?_
  refine end_1 (by first | exact .inl rfl | exact .inr rfl) ?_
  replace hall : es.filter (fun e => !freeE e) = es := hall
  rw [hall, hh.same]; exact hM
theorem sweep15_ (H : Heap) (v : V) (es : List Ent) (hx : Sl 3 entC H v es) (hl : es.length ≤ 2 ^ 47) :
  ∃ w H', Call Tryz.prog 116 [v] H w H' ∧ ∃ u, w = .tup [u, .int .i64 (sweepS es).2] ∧ Mem H H' [.own 3 entC u (sweepS es).1] := by
 refine call_mem fit mixed Tryz.func116 rfl rfl rfl (by kernel_rfl) fun hM => ?_
 have c1 := storeMay_ H v es hx hl
 unfold sweepS
 cases hm : storeMay es with
 | false =>
  rw [hm] at c1
  rw [if_pos rfl]
  clear hm
  refine goM ?_
  refine l_callG c1 ?_
  refine goM ?_
  exact end_2 (by first | exact .inl rfl | exact .inr rfl) ⟨_, rfl, hM.nil 3 entC⟩
 | true =>
  rw [hm] at c1
  rw [if_neg (by decide)]
  have hs := store_of hm
  obtain ⟨u, H1, c3, m1⟩ := cloneEnt_ H v es hx hs.len
  obtain ⟨w, H2, c4, m2⟩ := delete_ H H1 _ _ u es m1 .here hs.len
  have hf : (fun e : Ent => !freeE e) = fun e => decide (e.n ≠ 0) := by
   funext e
   unfold freeE
   by_cases h : e.n = 0 <;> simp [h]
  rw [hf] at m2
  clear hm hs m1 hM
  refine goM ?_
  refine l_callG c1 ?_
  refine goM ?_
  refine l_callG c3 ?_
  refine goM ?_
  refine l_callG c4 ?_
  refine goM ?_
  exact end_2 (by first | exact .inl rfl | exact .inr rfl) ⟨_, rfl, m2⟩
theorem within_text (s : ByteArray) : within (s.size : Int) 1 256 = textOk s := by
 unfold textOk
 apply Bool.eq_iff_iff.2
 rw [within_iff]
 simp
 omega
theorem entOk_split (e : Ent) : entOk e = (within e.id 0 1024 && textOk e.tx && within e.n 0 8) := rfl
theorem holdsN_other {es : List Ent} {k m : Nat} {e x : Ent} (he : es[k]? = some e) (hm : m < k) (hx : es[m]? = some x) (ht : txEq x.tx e.tx = true) : okAt es k = false := by
 rw [Bool.eq_false_iff]
 intro ho
 unfold okAt at ho
 rw [he] at ho
 simp only [Bool.and_eq_true, decide_eq_true_eq] at ho
 have := holdsN_lt (s := e.tx) (k := m) (by rw [ho.2]; exact hm) hx
 rw [ht] at this; cases this
def prevOk (es : List Ent) (k : Nat) (e : Ent) : Bool := match k with
 | 0 => true
 | j + 1 => match es[j]? with
  | none => true
  | some p => decide (p.id < e.id)
theorem okAt_eq {es : List Ent} {k : Nat} {e : Ent} (h : es[k]? = some e) : okAt es k = (entOk e && prevOk es k e && decide (holdsN es e.tx = k)) := by
 unfold okAt; rw [h]; rfl
theorem refStoreMay_ (H : Heap) (v : V) (es : List Ent) (hx : Sl 3 entC H v es) (hl : es.length ≤ 2 ^ 47) : Call Tryz.prog 89 [v] H (.bool (storeMay es)) H := by
 refine call_pure fit mixed Tryz.func89 rfl rfl rfl (by kernel_rfl) rfl fun hM => ?_
 obtain ⟨n, hn⟩ : ∃ n, es.length = n := ⟨_, rfl⟩
 have hlen := hx.len T31 rfl
 rw [hn] at hlen
 refine goM ?_
 refine wq_loop (fun c ρ h => ∃ k : Nat, k ≤ n ∧ c = n - k ∧ h = H ∧ (∀ j, j < k → okAt es j = true) ∧ ρ 0 = v ∧ ρ 3 = .int .i64 (k : Int)) ⟨0, Nat.zero_le _, rfl, rfl, by intro j hj; omega, rfl, rfl⟩ ?_
 clear hM
 rintro _ ρ h ⟨k, hk, rfl, rfl, hgood, g0, g3⟩
 refine goM ?_
 refine cond_go (fun hb => ?_) (fun hb => ?_)
 ·have hk' : k < n := by simpa using hb
  clear hb
  obtain ⟨e, he⟩ : ∃ e, es[k]? = some e := ⟨es[k]'(by omega), by simp⟩
  obtain ⟨b, o, hie, _, l0, l1, l2⟩ := ent_at hx he
  have c1 := upTo12_ h e.id 0 1024
  have c2 := upTo12_ h (e.tx.size : Int) 1 256
  have c3 := upTo12_ h e.n 0 8
  rw [within_text] at c2
  have hsl := str_len0 e.tx
  have hw := wrap_succ (n := k) (by omega)
  have hfail := fun hq => may_fail (es := es) (k := k) (by omega) hq
  have hnext : okAt es k = true → ∀ j, j < k + 1 → okAt es j = true := fun ho j hj => by
   rcases Nat.lt_or_eq_of_le (Nat.le_of_lt_succ hj) with h1 | h1
   ·exact hgood j h1
   ·subst h1; exact ho
  have hoth := fun (m : Nat) (x : Ent) (hm : m < k) (hx : es[m]? = some x) (ht : txEq x.tx e.tx = true) => holdsN_other he hm hx ht
  have hown := fun (hall : ∀ (m : Nat) (x : Ent), m < k → es[m]? = some x → txEq x.tx e.tx = false) => holdsN_eq he rfl hall
  have hoe := okAt_eq he
  rw [entOk_split] at hoe
  obtain ⟨q1, e1⟩ : ∃ q, within e.id 0 1024 = q := ⟨_, rfl⟩
  obtain ⟨q2, e2⟩ : ∃ q, textOk e.tx = q := ⟨_, rfl⟩
  obtain ⟨q3, e3⟩ : ∃ q, within e.n 0 8 = q := ⟨_, rfl⟩
  rw [e1] at c1 hoe
  rw [e2] at c2 hoe
  rw [e3] at c3 hoe
  clear e1 e2 e3 hgood
  cases q1 with
  | false =>
   rw [hfail (by rw [hoe]; simp)]
   clear hfail hnext hoth hown hoe he hlen
   refine goM ?_
   refine d_call0G c1 ?_
   refine goM ?_
   exact end_1 (by first | exact .inl rfl | exact .inr rfl) ⟨rfl, List.prefix_refl _⟩
  | true =>
  cases q2 with
  | false =>
   rw [hfail (by rw [hoe]; simp)]
   clear hfail hnext hoth hown hoe he hlen
   refine goM ?_
   refine d_call0G c1 ?_
   refine goM ?_
   refine d_call0G c2 ?_
   refine goM ?_
   exact end_1 (by first | exact .inl rfl | exact .inr rfl) ⟨rfl, List.prefix_refl _⟩
  | true =>
  cases q3 with
  | false =>
   rw [hfail (by rw [hoe]; simp)]
   clear hfail hnext hoth hown hoe he hlen
   refine goM ?_
   refine d_call0G c1 ?_
   refine goM ?_
   refine d_call0G c2 ?_
   refine goM ?_
   refine d_call0G c3 ?_
   refine goM ?_
   exact end_1 (by first | exact .inl rfl | exact .inr rfl) ⟨rfl, List.prefix_refl _⟩
  | true =>
  obtain ⟨q4, e4⟩ : ∃ q, prevOk es k e = q := ⟨_, rfl⟩
  rw [e4] at hoe
  cases q4 with
  | false =>
   rw [hfail (by rw [hoe]; simp)]
   cases k with
   | zero => cases e4
   | succ k =>
    obtain ⟨p, hp⟩ : ∃ p, es[k]? = some p := ⟨es[k]'(by omega), by simp⟩
    obtain ⟨b2, o2, hip, _, m0, _⟩ := ent_at hx hp
    simp only [prevOk, hp] at e4
    have z0 : decide (((k + 1 : Nat) : Int) > 0) = true := decide_eq_true (by omega)
    have wk : IntKind.i64.wrap (((k + 1 : Nat) : Int) - 1) = (k : Int) := by rw [wrap_i64 (by omega) (by omega)]; omega
    have hcmp : decide (p.id ≥ e.id) = true := by
     have := of_decide_eq_false e4
     exact decide_eq_true (by omega)
    clear hfail hnext hoth hown hoe he hlen hp e4
    refine goM ?_
    refine d_call0G c1 ?_
    refine goM ?_
    refine d_call0G c2 ?_
    refine goM ?_
    refine d_call0G c3 ?_
    refine goM ?_
    exact end_1 (by first | exact .inl rfl | exact .inr rfl) ⟨rfl, List.prefix_refl _⟩
  | true =>
   have hgt : ∃ z : Bool, decide ((k : Int) > 0) = z ∧ (z = true → ∃ (p : Ent) (b2 o2 : Nat) (wk : Int), IntKind.i64.wrap ((k : Int) - 1) = wk ∧ idxV T 31 v wk = some (.ptr b2 o2) ∧ loadV T 3 h b2 o2 = some (.int .i64 p.id) ∧ decide (p.id ≥ e.id) = false) := by
    cases k with
    | zero => exact ⟨false, by decide, fun h => by cases h⟩
    | succ k =>
     obtain ⟨p, hp⟩ : ∃ p, es[k]? = some p := ⟨es[k]'(by omega), by simp⟩
     obtain ⟨b2, o2, hip, _, m0, _⟩ := ent_at hx hp
     simp only [prevOk, hp] at e4
     refine ⟨true, decide_eq_true (by omega), fun _ => ⟨p, b2, o2, k, by rw [wrap_i64 (by omega) (by omega)]; omega, hip, m0, ?_⟩⟩
     have := of_decide_eq_true e4
     exact decide_eq_false (by omega)
   obtain ⟨z, hz, hzt⟩ := hgt
   cases z with
   | false =>
    clear hzt e4
    refine goM ?_
    refine d_call0G c1 ?_
    refine goM ?_
    refine d_call0G c2 ?_
    refine goM ?_
    refine d_call0G c3 ?_
    refine goM ?_
    clear hz c1 c2 c3 l0 l2 hsl
    refine wq_loop (fun c ρ h' => ∃ m : Nat, m ≤ k ∧ c = k - m ∧ h' = h ∧ (∀ (j : Nat) (x : Ent), j < m → es[j]? = some x → txEq x.tx e.tx = false) ∧ ρ 0 = v ∧ ρ 3 = .int .i64 (k : Int) ∧ ρ 4 = .int .i64 (m : Int)) ⟨0, Nat.zero_le _, rfl, rfl, by intro j x hj; omega, by simp [put_app, put_none, *], by simp [put_app, put_none, *], rfl⟩ ?_
    clear g0 g3
    rintro _ ρ h' ⟨m, hm, rfl, rfl, hall, g0, g3, g4⟩
    refine goM ?_
    refine cond_go (fun hb => ?_) (fun hb => ?_)
    ·have hm' : m < k := by simpa using hb
     clear hb
     obtain ⟨y, hy⟩ : ∃ e, es[m]? = some e := ⟨es[m]'(by omega), by simp⟩
     obtain ⟨b3, o3, hi3, _, _, k1, _⟩ := ent_at hx hy
     have hwm := wrap_succ (n := m) (by omega)
     cases hq : txEq y.tx e.tx with
     | true =>
      rw [hfail (hoth m y hm' hy hq)]
      replace hq := (tx_def y.tx e.tx).trans hq
      clear hfail hnext hoth hown hoe he hlen hall hy
      refine goM ?_
      exact end_1 (by first | exact .inl rfl | exact .inr rfl) ⟨rfl, List.prefix_refl _⟩
     | false =>
      have hall2 : ∀ (j : Nat) (x : Ent), j < m + 1 → es[j]? = some x → txEq x.tx e.tx = false := fun j x hj hx => by
       rcases Nat.lt_or_eq_of_le (Nat.le_of_lt_succ hj) with h1 | h1
       ·exact hall j x h1 hx
       ·subst h1
        rw [hy] at hx; cases hx; exact hq
      replace hq := (tx_def y.tx e.tx).trans hq
      clear hfail hnext hoth hown hoe he hlen hall hy
      refine goM ?_
      exact ⟨k - (m + 1), by omega, m + 1, hm', rfl, rfl, hall2, by simp [put_app, put_none, *]⟩
    ·have hm' : m = k := by have : ¬ m < k := by simpa using hb
                            omega
     subst hm'
     have hg := hnext (by rw [hoe, hown hall]; simp)
     clear hb hfail hnext hoth hown hoe he hlen hall
     refine goM ?_
     exact ⟨n - (m + 1), by omega, m + 1, hk', rfl, rfl, hg, by simp [put_app, put_none, *]⟩
   | true =>
    obtain ⟨p, b2, o2, wk, hwk, hip, m0, hcmp⟩ := hzt rfl
    clear hzt e4
    refine goM ?_
    refine d_call0G c1 ?_
    refine goM ?_
    refine d_call0G c2 ?_
    refine goM ?_
    refine d_call0G c3 ?_
    refine goM ?_
    clear hz c1 c2 c3 l0 l2 hsl hip m0 hcmp hwk
    refine wq_loop (fun c ρ h' => ∃ m : Nat, m ≤ k ∧ c = k - m ∧ h' = h ∧ (∀ (j : Nat) (x : Ent), j < m → es[j]? = some x → txEq x.tx e.tx = false) ∧ ρ 0 = v ∧ ρ 3 = .int .i64 (k : Int) ∧ ρ 4 = .int .i64 (m : Int)) ⟨0, Nat.zero_le _, rfl, rfl, by intro j x hj; omega, by simp [put_app, put_none, *], by simp [put_app, put_none, *], rfl⟩ ?_
    clear g0 g3
    rintro _ ρ h' ⟨m, hm, rfl, rfl, hall, g0, g3, g4⟩
    refine goM ?_
    refine cond_go (fun hb => ?_) (fun hb => ?_)
    ·have hm' : m < k := by simpa using hb
     clear hb
     obtain ⟨y, hy⟩ : ∃ e, es[m]? = some e := ⟨es[m]'(by omega), by simp⟩
     obtain ⟨b3, o3, hi3, _, _, k1, _⟩ := ent_at hx hy
     have hwm := wrap_succ (n := m) (by omega)
     cases hq : txEq y.tx e.tx with
     | true =>
      rw [hfail (hoth m y hm' hy hq)]
      replace hq := (tx_def y.tx e.tx).trans hq
      clear hfail hnext hoth hown hoe he hlen hall hy
      refine goM ?_
      exact end_1 (by first | exact .inl rfl | exact .inr rfl) ⟨rfl, List.prefix_refl _⟩
     | false =>
      have hall2 : ∀ (j : Nat) (x : Ent), j < m + 1 → es[j]? = some x → txEq x.tx e.tx = false := fun j x hj hx => by
       rcases Nat.lt_or_eq_of_le (Nat.le_of_lt_succ hj) with h1 | h1
       ·exact hall j x h1 hx
       ·subst h1
        rw [hy] at hx; cases hx; exact hq
      replace hq := (tx_def y.tx e.tx).trans hq
      clear hfail hnext hoth hown hoe he hlen hall hy
      refine goM ?_
      exact ⟨k - (m + 1), by omega, m + 1, hm', rfl, rfl, hall2, by simp [put_app, put_none, *]⟩
    ·have hm' : m = k := by have : ¬ m < k := by simpa using hb
                            omega
     subst hm'
     have hg := hnext (by rw [hoe, hown hall]; simp)
     clear hb hfail hnext hoth hown hoe he hlen hall
     refine goM ?_
     exact ⟨n - (m + 1), by omega, m + 1, hk', rfl, rfl, hg, by simp [put_app, put_none, *]⟩
 ·have hk' : k = n := by have : ¬ k < n := by simpa using hb
                         omega
  subst hk'
  have hres : storeMay es = decide ((k : Int) ≤ 64) := by
   unfold storeMay
   have : (List.range es.length).all (okAt es) = true := by
    simp only [List.all_eq_true, List.mem_range]
    exact fun i hi => hgood i (by omega)
   rw [this, hn, Bool.and_true]
   apply Bool.eq_iff_iff.2
   simp only [decide_eq_true_eq]; omega
  rw [hres]
  clear hb hres hgood
  refine goM ?_
  exact end_1 (by first | exact .inl rfl | exact .inr rfl) ⟨rfl, List.prefix_refl _⟩
theorem refPut15_ (H : Heap) (v : V) (es : List Ent) (s : ByteArray) (hx : Sl 3 entC H v es) (hl : es.length ≤ 2 ^ 47) :
  ∃ w H', Call Tryz.prog 59 [v, .str s] H w H' ∧ ∃ u, w = .tup [u, .int .i64 (putS es s).2.1, .int .i64 (putS es s).2.2] ∧ Mem H H' [.own 3 entC u (putS es s).1] := by
 refine call_mem fit mixed Tryz.func59 rfl rfl rfl (by kernel_rfl) fun hM => ?_
 have c1 := refStoreMay_ H v es hx hl
 have c2 := upTo12_ H (s.size : Int) 1 256
 rw [within_text] at c2
 have hsl := str_len0 s
 unfold putS
 cases hm : storeMay es with
 | false =>
  rw [hm] at c1
  rw [Bool.false_and, if_pos rfl]
  clear hm c2
  refine goM ?_
  refine l_callG c1 ?_
  refine goM ?_
  exact end_3 (by first | exact .inl rfl | exact .inr rfl) ⟨_, rfl, hM.nil 3 entC⟩
 | true =>
  rw [hm] at c1
  have hs := store_of hm
  cases ht : textOk s with
  | false =>
   rw [ht] at c2
   rw [Bool.and_false, if_pos rfl]
   clear hm ht hs
   refine goM ?_
   refine l_callG c1 ?_
   refine goM ?_
   refine l_callG c2 ?_
   refine goM ?_
   exact end_3 (by first | exact .inl rfl | exact .inr rfl) ⟨_, rfl, hM.nil 3 entC⟩
  | true =>
   rw [ht] at c2
   rw [Bool.and_true, if_neg (by decide)]
   have hn64 := hs.len
   have hlen := hx.len T31 rfl
   obtain ⟨n, hn⟩ : ∃ n, es.length = n := ⟨_, rfl⟩
   rw [hn] at hlen hn64
   clear hm ht
   refine goM ?_
   refine l_callG c1 ?_
   refine goM ?_
   refine l_callG c2 ?_
   refine goM ?_
   refine l_sliceM entC [] [] T31 rfl T73 rfl (cells_ents []) (by decide) fun e1 H3 hM => ?_
   refine goM ?_
   refine l_appM (hx.mono hM.pre) (xs := []) (hb := by simp only [List.length_nil]; omega) fun u H1 hM => ?_
   have hlenu := (hM.sl .here).len T31 rfl
   rw [List.nil_append, hn] at hlenu
   rw [List.nil_append] at hM
   clear c1 c2
   refine goM ?_
   refine wq_loop (fun c ρ h => ∃ k : Nat, k ≤ n ∧ c = n - k ∧ h = H1 ∧ (∀ (j : Nat) (x : Ent), j < k → es[j]? = some x → txEq x.tx s = false) ∧ ρ 0 = v ∧ ρ 1 = .str s ∧ ρ 7 = u ∧ ρ 8 = .int .i64 (k : Int)) ⟨0, Nat.zero_le _, rfl, rfl, by intro j x hj; omega, rfl, rfl, rfl, rfl⟩ ?_
   rintro _ ρ h ⟨k, hk, rfl, rfl, hall, g0, g1, g7, g8⟩
   refine goM ?_
   refine cond_go (fun hb => ?_) (fun hb => ?_)
   ·have hk' : k < n := by simpa using hb
    clear hb
    obtain ⟨e, he⟩ : ∃ e, es[k]? = some e := ⟨es[k]'(by omega), by simp⟩
    obtain ⟨b, o, hie, _, _, lo1, lo2⟩ := ent_at (hM.sl .here) he
    have hw := wrap_succ (n := k) (by omega)
    have hkl := (List.getElem?_eq_some_iff.1 he).1
    cases hq : txEq e.tx s with
    | false =>
     have hall2 : ∀ (j : Nat) (x : Ent), j < k + 1 → es[j]? = some x → txEq x.tx s = false := fun j x hj hx => by
      rcases Nat.lt_or_eq_of_le (Nat.le_of_lt_succ hj) with h1 | h1
      ·exact hall j x h1 hx
      ·subst h1
       rw [he] at hx; cases hx; exact hq
     replace hq := (tx_def e.tx s).trans hq
     clear he hall hs
     refine goM ?_
     exact ⟨n - (k + 1), by omega, k + 1, hk', rfl, rfl, hall2, by simp [put_app, put_none, *]⟩
    | true =>
     have hN : holdsN es s = k := holdsN_eq he (txEq_iff.1 hq) hall
     rw [hN, he]
     simp only
     replace hq := (tx_def e.tx s).trans hq
     obtain ⟨hn0, hn8⟩ := ent_n hs he
     have wn : IntKind.i64.wrap (e.n + 1) = e.n + 1 := wrap_i64 (by omega) (by omega)
     obtain ⟨H2, hst, m2⟩ := hM.bump .here he 1 hie
     obtain ⟨_, _, hie', _, lo0, _⟩ := ent_at (m2.sl .here) (k := k) (e := ⟨e.id, e.tx, e.n + 1⟩) (by rw [bump_at 1 he, List.getElem?_set_self hkl])
     rw [hie] at hie'
     cases hie'
     by_cases h8 : e.n = 8
     ·have d8 : (e.n == 8) = true := by rw [h8]; rfl
      simp only [h8, if_true]
      clear hst m2 hn0 hn8 he hs wn h8 hkl hall hN
      refine goM ?_
      exact end_3 (by first | exact .inl rfl | exact .inr rfl) ⟨_, rfl, (hM.sub (L' := []) (by simp)).nil 3 entC⟩
     ·have d8 : (e.n == 8) = false := by simpa using h8
      simp only [h8, if_false]
      clear hn0 hn8 he hs h8 hkl hM hall hN
      refine goM ?_
      refine l_stM hst ?_
      refine goM ?_
      exact end_3 (by first | exact .inl rfl | exact .inr rfl) ⟨_, rfl, m2.sub (by (repeat (first | exact List.Sublist.slnil | exact List.Sublist.refl _ | refine List.Sublist.cons_cons _ ?_ | refine List.Sublist.cons _ ?_)))⟩
   ·have hk' : k = n := by have : ¬ k < n := by simpa using hb
                           omega
    subst hk'
    have hN : holdsN es s = es.length := holdsN_none fun j x hx => hall j x (by have := (List.getElem?_eq_some_iff.1 hx).1; omega) hx
    rw [hN, List.getElem?_eq_none (Nat.le_refl _)]
    simp only
    rw [hn]
    clear hb hall hN hs
    have hl64 : ((k : Int) == 64) = decide (k = 64) := by
     by_cases h : k = 64
     ·subst h; rfl
     ·rw [decide_eq_false h]; simp; omega
    by_cases h64 : k = 64
    ·rw [decide_eq_true h64] at hl64
     rw [if_pos h64]
     clear h64
     refine goM ?_
     exact end_3 (by first | exact .inl rfl | exact .inr rfl) ⟨_, rfl, (hM.sub (L' := []) (by simp)).nil 3 entC⟩
    ·rw [decide_eq_false h64] at hl64
     rw [if_neg h64]
     clear h64
     refine goM ?_
     obtain ⟨z, hz⟩ : ∃ z, freeN es = z := ⟨_, rfl⟩
     rw [hz]
     clear g7 g8 hl64
     refine wq_loop (fun c ρ h' => ∃ q : Nat, q ≤ k ∧ c = k - q ∧ h' = h ∧ freeFrom (es.drop q) q = z ∧ ρ 0 = v ∧ ρ 1 = .str s ∧ ρ 9 = .int .i64 (q : Int)) ⟨0, Nat.zero_le _, rfl, rfl, hz, by simp [put_app, put_none, *], by simp [put_app, put_none, *], rfl⟩ ?_
     clear g0 g1
     rintro _ ρ h' ⟨q, hq, rfl, rfl, hfr, g0, g1, g9⟩
     have hxh := hx.mono hM.pre
     by_cases hqk : q < k ∧ ∃ e, es[q]? = some e ∧ e.id = (q : Int)
     ·obtain ⟨hq', e, he, hek⟩ := hqk
      obtain ⟨b, o, hie, _, lo0, _⟩ := ent_at hxh he
      have dkn : decide ((q : Int) < (k : Int)) = true := decide_eq_true (by omega)
      have dek : (e.id == (q : Int)) = true := by simpa using hek
      rw [freeFrom_step he, if_pos hek] at hfr
      have hw := wrap_succ (n := q) (by omega)
      clear he hek
      refine goM ?_
      exact ⟨k - (q + 1), by omega, q + 1, hq', rfl, rfl, hfr, by simp [put_app, put_none, *]⟩
     ·have hqz : q = z := by
       by_cases hq' : q < k
       ·obtain ⟨e, he⟩ : ∃ e, es[q]? = some e := ⟨es[q]'(by omega), by simp⟩
        rw [freeFrom_step he, if_neg (fun h => hqk ⟨hq', e, he, h⟩)] at hfr
        exact hfr
       ·obtain rfl : q = k := by omega
        rw [List.drop_eq_nil_of_le (by omega)] at hfr
        exact hfr
      have hstop : decide ((q : Int) < (k : Int)) = false ∨ ∃ (e : Ent) (b o : Nat), decide ((q : Int) < (k : Int)) = true ∧ idxV T 31 v (q : Int) = some (.ptr b o) ∧ loadV T 3 h' b o = some (.int .i64 e.id) ∧ (e.id == (q : Int)) = false := by
       by_cases hq' : q < k
       ·obtain ⟨e, he⟩ : ∃ e, es[q]? = some e := ⟨es[q]'(by omega), by simp⟩
        obtain ⟨b, o, hie, _, lo0, _⟩ := ent_at hxh he
        refine .inr ⟨e, b, o, decide_eq_true (by omega), hie, lo0, ?_⟩
        have : ¬ e.id = (q : Int) := fun h => hqk ⟨hq', e, he, h⟩
        simpa using this
       ·exact .inl (decide_eq_false (by omega))
      have htake := hx.take (k := q) (by omega)
      have hrest := hx.rest (l := q) (by omega)
      obtain ⟨ut, hut, hst⟩ := htake
      obtain ⟨ur, hur, hsr⟩ := hrest
      subst hqz
      have hb1 : (es.take q).length ≤ 64 := by rw [List.length_take]; omega
      have hb2 : (es.drop q).length ≤ 64 := by rw [List.length_drop]; omega
      clear hz hqk hfr
      have hlt : (es.take q).length + (es.drop q).length = es.length := by rw [List.length_take, List.length_drop]; omega
      rcases hstop with hd | ⟨e, b, o, hd, hie, lo0, dek⟩
      all_goals
       refine goM ?_
       refine l_sliceM entC [] [] T31 rfl T73 rfl (cells_ents []) (by decide) fun e1 H3 hM => ?_
       refine goM ?_
       refine l_appM (hst.mono hM.pre) (xs := []) (hb := by simp only [List.length_nil]; omega) fun u1 H4 hM => ?_
       rw [List.nil_append] at hM
       refine goM ?_
       refine l_sliceM entC [⟨(q : Int), s, 1⟩] (entV ⟨(q : Int), s, 1⟩) T31 rfl T73 rfl (cells_ents [⟨(q : Int), s, 1⟩]) (by decide) fun e2 H5 hM => ?_
       refine goM ?_
       refine l_appM (hM.sl .here) (xs := es.take q) (hh := .there .here) (hb := by simp only [List.length_cons, List.length_nil]; omega) fun u2 H6 hM => ?_
       refine goM ?_
       refine l_appM (hsr.mono hM.pre) (xs := es.take q ++ [⟨(q : Int), s, 1⟩]) (hh := .there .here) (hb := by simp only [List.length_append, List.length_cons, List.length_nil]; omega) fun u3 H7 hM => ?_
       rw [List.append_assoc] at hM
       refine goM ?_
       exact end_3 (by first | exact .inl rfl | exact .inr rfl) ⟨_, rfl, hM.subG⟩
theorem refGet15_ (H : Heap) (v : V) (es : List Ent) (id : Int) (hx : Sl 3 entC H v es) (hl : es.length ≤ 2 ^ 47) :
  Call Tryz.prog 45 [v, .int .i64 id] H (.tup [.str (getS es id).1, .bool (getS es id).2]) H := by
 refine call_pure fit mixed Tryz.func45 rfl rfl rfl (by kernel_rfl) rfl fun hM => ?_
 have c1 := refStoreMay_ H v es hx hl
 obtain ⟨n, hn⟩ : ∃ n, es.length = n := ⟨_, rfl⟩
 have hlen := hx.len T31 rfl
 rw [hn] at hlen
 refine goM ?_
 refine wq_loop (fun c ρ h => ∃ k : Nat, k ≤ n ∧ c = n - k ∧ h = H ∧ (∀ (j : Nat) (x : Ent), j < k → es[j]? = some x → x.id ≠ id) ∧ ρ 0 = v ∧ ρ 1 = .int .i64 id ∧ ρ 6 = .int .i64 (k : Int)) ⟨0, Nat.zero_le _, rfl, rfl, by intro j x hj; omega, rfl, rfl, rfl⟩ ?_
 clear hM
 rintro _ ρ h ⟨k, hk, rfl, rfl, hall, g0, g1, g6⟩
 by_cases hkn : k < n
 ·have dk : decide ((k : Int) < (n : Int)) = true := decide_eq_true (by omega)
  cases hm : storeMay es with
  | false =>
   rw [hm] at c1
   unfold getS
   rw [hm, if_pos rfl]
   clear hm hall
   refine goM ?_
   refine l_callG c1 ?_
   refine goM ?_
   exact end_2 (by first | exact .inl rfl | exact .inr rfl) ⟨rfl, List.prefix_refl _⟩
  | true =>
   rw [hm] at c1
   obtain ⟨e, he⟩ : ∃ e, es[k]? = some e := ⟨es[k]'(by omega), by simp⟩
   obtain ⟨b, o, hie, _, lo0, lo1, _⟩ := ent_at hx he
   have hw := wrap_succ (n := k) (by omega)
   by_cases hid : e.id = id
   ·have d1 : (e.id == id) = true := by simpa using hid
    have hF : findN es id = k := by
     unfold findN
     have hlt := (List.getElem?_eq_some_iff.1 he).1
     rw [List.findIdx_eq hlt]
     have hel : es[k] = e := by rw [List.getElem?_eq_getElem hlt] at he; exact Option.some.inj he
     refine ⟨by rw [hel]; exact decide_eq_true hid, fun j hj => ?_⟩
     have := hall j (es[j]'(by omega)) hj (by simp)
     simpa using this
    unfold getS
    rw [hm, if_neg (by decide), hF, he]
    clear hm hall hF he hid
    refine goM ?_
    refine l_callG c1 ?_
    refine goM ?_
    exact end_2 (by first | exact .inl rfl | exact .inr rfl) ⟨rfl, List.prefix_refl _⟩
   ·have d1 : (e.id == id) = false := by simpa using hid
    have hall2 : ∀ (j : Nat) (x : Ent), j < k + 1 → es[j]? = some x → x.id ≠ id := fun j x hj hx => by
     rcases Nat.lt_or_eq_of_le (Nat.le_of_lt_succ hj) with h1 | h1
     ·exact hall j x h1 hx
     ·subst h1
      rw [he] at hx; cases hx; exact hid
    clear hm hall he hid
    refine goM ?_
    refine l_callG c1 ?_
    refine goM ?_
    exact ⟨n - (k + 1), by omega, k + 1, hkn, rfl, rfl, hall2, by simp [put_app, put_none, *]⟩
 ·have dk : decide ((k : Int) < (n : Int)) = false := decide_eq_false (by omega)
  have hres : getS es id = (⟨#[]⟩, false) := by
   unfold getS
   split
   ·rfl
   ·have : es[findN es id]? = none := by
     rw [List.getElem?_eq_none_iff]
     apply Nat.le_of_not_lt
     intro hlt
     have h2 := List.findIdx_getElem (xs := es) (p := fun e : Ent => decide (e.id = id)) (w := hlt)
     exact hall (findN es id) (es[findN es id]'hlt) (by omega) (by simp) (of_decide_eq_true h2)
    rw [this]
  rw [hres]
  clear hall hres hkn
  refine goM ?_
  exact end_2 (by first | exact .inl rfl | exact .inr rfl) ⟨rfl, List.prefix_refl _⟩
theorem Sl.map {α β : Type} {sz : Nat} {R : List V → α → Prop} {R' : List V → β → Prop} {H : Heap} {v : V} {xs : List α} (f : α → β) (h : Sl sz R H v xs) (hf : ∀ cs x, R cs x → R' cs (f x)) : Sl sz R' H v (xs.map f) := by
 rcases h with ⟨rfl, rfl⟩ | ⟨b, off, cap, t, cs, wr, rfl, h1, h2, h3, h4⟩
 ·exact .inl ⟨rfl, rfl⟩
 ·refine .inr ⟨b, off, cap, t, cs, wr, by rw [List.length_map], by rw [List.length_map]; exact h1, h2, by rw [List.length_map]; exact h3, fun k y hy => ?_⟩
  rw [List.getElem?_map] at hy
  cases hx : xs[k]? with
  | none => rw [hx] at hy; cases hy
  | some x => rw [hx] at hy; cases hy; exact hf _ _ (h4 k x hx)
theorem Sl.all {α : Type} {sz : Nat} {R : List V → α → Prop} {Q : α → Prop} {H : Heap} {v : V} {xs : List α} (h : Sl sz R H v xs) (hf : ∀ cs x, R cs x → Q x) : ∀ x ∈ xs, Q x := fun x hx => by
 obtain ⟨k, hk⟩ := List.mem_iff_getElem?.1 hx
 rcases h with ⟨rfl, rfl⟩ | ⟨b, off, cap, t, cs, wr, rfl, h1, h2, h3, h4⟩
 ·cases hx
 ·exact hf _ _ (h4 k x hk)
theorem rd_hyper {K : Heap} {D : Type} {vs : List V} {d : DataW D} (h : Rd T K 43 vs d) : ∃ a b, vs = [.int .i64 a, .int .i64 b] := by
 obtain ⟨hl, hf⟩ := h.field T43 rfl
 replace hl : vs.length = 2 := hl
 obtain ⟨x0, h0⟩ := hf 0 _ _ rfl T3
 obtain ⟨x1, h1⟩ := hf 1 _ _ rfl T3
 obtain ⟨n0, e0, _⟩ := h0.isInt T3 rfl
 obtain ⟨n1, e1, _⟩ := h1.isInt T3 rfl
 match vs, hl, e0, e1 with
 | [a, b], _, e0, e1 =>
  simp at e0 e1
  subst e0; subst e1
  exact ⟨n0, n1, rfl⟩
theorem rd_shapecells {K : Heap} {D : Type} {vs : List V} {d : DataW D} (h : Rd T K 23 vs d) : ∃ a b, vs = [.int .i64 a, .int .i64 b] := by
 obtain ⟨hl, hf⟩ := h.field T23 rfl
 replace hl : vs.length = 2 := hl
 obtain ⟨x0, h0⟩ := hf 0 _ _ rfl T3
 obtain ⟨x1, h1⟩ := hf 1 _ _ rfl T3
 obtain ⟨n0, e0, _⟩ := h0.isInt T3 rfl
 obtain ⟨n1, e1, _⟩ := h1.isInt T3 rfl
 match vs, hl, e0, e1 with
 | [a, b], _, e0, e1 =>
  simp at e0 e1
  subst e0; subst e1
  exact ⟨n0, n1, rfl⟩
theorem rd_checkcells {K : Heap} {D : Type} {vs : List V} {d : DataW D} (hr : Rd T K 45 vs d) : ∃ w u k, vs = kC w u k ∧ KAt K w u k ∧ k.Fit := by
 obtain ⟨hl, hf⟩ := hr.field T45 rfl
 replace hl : vs.length = 5 := hl
 obtain ⟨x0, h0⟩ := hf 0 _ _ rfl T27
 obtain ⟨x1, h1⟩ := hf 1 _ _ rfl T27
 obtain ⟨x2, h2⟩ := hf 2 _ _ rfl T43
 obtain ⟨x3, h3⟩ := hf 3 _ _ rfl T3
 obtain ⟨n3, e3, _⟩ := h3.isInt T3 rfl
 obtain ⟨p, q, e2⟩ := rd_hyper h2
 match vs, hl, h0, h1, e2, e3 with
 | [a, b, c, e, f], _, h0, h1, e2, e3 =>
  simp at e2 e3
  obtain ⟨rfl, rfl⟩ := e2
  subst e3
  obtain ⟨ws, s1, l1⟩ := rd_ints ⟨_, T27, .inr ⟨rfl, h0⟩⟩
  obtain ⟨us, s2, l2⟩ := rd_ints ⟨_, T27, .inr ⟨rfl, h1⟩⟩
  exact ⟨a, b, ⟨ws, us, p, q, n3⟩, rfl, ⟨s1, s2⟩, ⟨Nat.le_trans l1 (by decide), Nat.le_trans l2 (by decide)⟩⟩
def rdRowC (K : Heap) (cs : List V) (p : (V × Int) × List Int) : Prop := cs = [p.1.1, .int .i64 p.1.2] ∧ Sl 1 intC K p.1.1 p.2 ∧ p.2.length * 8 ≤ 140737488351232
theorem rd_rows {K : Heap} {D : Type} {v : V} {d : DataW D} (h : RdV T K 24 v d) : ∃ rs, Rows K v rs ∧ rs.length * 32 ≤ 140737488351232 ∧ ∀ r ∈ rs, r.1.length * 8 ≤ 140737488351232 := by
 obtain ⟨xs, h1, h2⟩ := (h.plain T24 rfl).isSlice (R := rdRowC K) T24 rfl T144 fun cs x hx => by
  obtain ⟨x, xs, y, e, e1, e2⟩ := rd_rowcells hx
  exact ⟨((x, y), xs), e, e1, Nat.le_trans e2 (by decide)⟩
 have h3 := h1.all (Q := fun p => Sl 1 intC K p.1.1 p.2 ∧ p.2.length * 8 ≤ 140737488351232) fun cs x hx => hx.2
 refine ⟨xs.map fun p => (p.2, p.1.2), ⟨xs.map (·.1), h1.map (R' := rowC) (fun p => p.1) fun cs x hx => (show rowC cs x.1 from hx.1), by simp, fun k p r hp hr => ?_⟩, by rw [List.length_map]; exact Nat.le_trans h2 (by decide), fun r hr => ?_⟩
 ·rw [List.getElem?_map] at hp hr
  cases hx : xs[k]? with
  | none => rw [hx] at hp; cases hp
  | some x =>
   rw [hx] at hp hr
   cases hp; cases hr
   exact ⟨(h3 x (List.mem_iff_getElem?.2 ⟨k, hx⟩)).1, rfl⟩
 ·obtain ⟨x, hx, rfl⟩ := List.mem_map.1 hr
  exact (h3 x hx).2
theorem rd_config {K : Heap} {D : Type} {v : V} {d : DataW D} (h : RdV T K 26 v d) : ∃ c rv, v = .agg (cfgC c rv) ∧ Rows K rv c.rows ∧ c.Fit := by
 obtain ⟨vs, rfl, hr⟩ := h.agg T26 rfl
 obtain ⟨hl, hf⟩ := hr.field T26 rfl
 replace hl : vs.length = 9 := hl
 obtain ⟨x0, h0⟩ := hf 0 _ _ rfl T3
 obtain ⟨x1, h1⟩ := hf 1 _ _ rfl T23
 obtain ⟨x2, h2⟩ := hf 2 _ _ rfl T24
 obtain ⟨x3, h3⟩ := hf 3 _ _ rfl T3
 obtain ⟨x4, h4⟩ := hf 4 _ _ rfl T3
 obtain ⟨x5, h5⟩ := hf 5 _ _ rfl T3
 obtain ⟨x6, h6⟩ := hf 6 _ _ rfl T3
 obtain ⟨x7, h7⟩ := hf 7 _ _ rfl T4
 obtain ⟨n0, e0, _⟩ := h0.isInt T3 rfl
 obtain ⟨n1, n2, e1⟩ := rd_shapecells h1
 obtain ⟨n3, e3, _⟩ := h3.isInt T3 rfl
 obtain ⟨n4, e4, _⟩ := h4.isInt T3 rfl
 obtain ⟨n5, e5, _⟩ := h5.isInt T3 rfl
 obtain ⟨n6, e6, _⟩ := h6.isInt T3 rfl
 obtain ⟨n7, e7⟩ := h7.isBool T4 rfl
 match vs, hl, e0, e1, h2, e3, e4, e5, e6, e7 with
 | [a0, a1, a2, a3, a4, a5, a6, a7, a8], _, e0, e1, h2, e3, e4, e5, e6, e7 =>
  simp at e0 e1 e3 e4 e5 e6 e7
  obtain ⟨rfl, rfl⟩ := e1
  subst e0; subst e3; subst e4; subst e5; subst e6; subst e7
  obtain ⟨rs, q1, q2, q3⟩ := rd_rows ⟨_, T24, .inr ⟨rfl, h2⟩⟩
  exact ⟨⟨n0, n1, n2, rs, n3, n4, n5, n6, n7⟩, a3, rfl, q1, ⟨q2, q3⟩⟩
def entEq (a b : Ent) : Bool := a.id == b.id && (txEq a.tx b.tx && (a.n == b.n && true))
theorem entEq_iff {a b : Ent} : entEq a b = true ↔ a = b := by
 obtain ⟨i, t, n⟩ := a
 obtain ⟨j, u, m⟩ := b
 unfold entEq
 simp only [Bool.and_eq_true, beq_iff_eq, txEq_iff, Bool.and_true, Ent.mk.injEq]
theorem ne_ent (a b : Ent) : vbin T .neq 73 (.agg (entV a)) (.agg (entV b)) = some (.bool (!entEq a b)) := by
 unfold entEq
 rw [← tx_def]
 simp only [vbin, T73]; rfl
def entsEq : List Ent → List Ent → Bool
 | [], [] => true
 | x :: xs, y :: ys => entEq x y && entsEq xs ys
 | _, _ => false
theorem entsEq_iff : ∀ {xs ys : List Ent}, entsEq xs ys = true ↔ xs = ys
 | [], [] => by simp [entsEq]
 | [], y :: ys => by simp [entsEq]
 | x :: xs, [] => by simp [entsEq]
 | x :: xs, y :: ys => by
  simp only [entsEq, Bool.and_eq_true, entEq_iff, entsEq_iff, List.cons.injEq]
theorem entsEq_self (xs : List Ent) : entsEq xs xs = true := entsEq_iff.2 rfl
theorem entsEq_no {xs ys : List Ent} (h : xs ≠ ys) : entsEq xs ys = false := by
 rw [Bool.eq_false_iff]; intro he; exact h (entsEq_iff.1 he)
theorem sameEnts_ (H : Heap) (u v : V) (xs ys : List Ent) (hx : Sl 3 entC H u xs) (hy : Sl 3 entC H v ys) (lx : xs.length ≤ 2 ^ 47) : Call Tryz.prog 108 [u, v] H (.bool (entsEq xs ys)) H := by
 refine call_pure fit mixed Tryz.func108 rfl rfl rfl (by kernel_rfl) rfl fun hM => ?_
 have hlx := hx.len T31 rfl
 have hly := hy.len T31 rfl
 obtain ⟨n, hn⟩ : ∃ n, xs.length = n := ⟨_, rfl⟩
 obtain ⟨m, hm⟩ : ∃ m, ys.length = m := ⟨_, rfl⟩
 rw [hn] at hlx
 rw [hm] at hly
 by_cases hnm : n = m
 ·subst hnm
  have d : ((n : Int) != (n : Int)) = false := by simp
  refine goM ?_
  refine wq_loop (fun c ρ h => ∃ k : Nat, k ≤ n ∧ c = n - k ∧ h = H ∧ xs.take k = ys.take k ∧ ρ 0 = u ∧ ρ 1 = v ∧ ρ 5 = .int .i64 (k : Int)) ⟨0, Nat.zero_le _, rfl, rfl, by simp, rfl, rfl, rfl⟩ ?_
  clear hM d
  rintro _ ρ h ⟨k, hk, rfl, rfl, hsame, h0, h1, h5⟩
  refine goM ?_
  refine cond_go (fun hb => ?_) (fun hb => ?_)
  ·have hk' : k < n := by simpa using hb
   clear hb
   obtain ⟨x, hxk⟩ : ∃ e, xs[k]? = some e := ⟨xs[k]'(by omega), by simp⟩
   obtain ⟨y, hyk⟩ : ∃ e, ys[k]? = some e := ⟨ys[k]'(by omega), by simp⟩
   obtain ⟨b, o, hi, hlo, _⟩ := ent_at hx hxk
   obtain ⟨b2, o2, hi2, hlo2, _⟩ := ent_at hy hyk
   have hw := wrap_succ (n := k) (by omega)
   have hne := ne_ent x y
   cases hq : entEq x y with
   | true =>
    rw [hq] at hne
    have ht := take_step hsame hxk hyk (entEq_iff.1 hq)
    clear hq hxk hyk
    repeat (first | (refine d_pl ?_; refine d_step (s_bin eLk eLk hne) ?_) | (refine l_pl ?_; refine l_goM ?_) | (refine d_pl ?_; refine d_goM ?_) | (refine l_gd ?_; first | refine l_onG ?_ | refine l_offG ?_ | refine l_offU ?_) | (refine d_gd ?_; first | refine d_onG ?_ | refine d_offG ?_ | refine d_offU ?_) | (refine cond_pl ?_; first | refine cond_yes ?_ | refine cond_no ?_) | refine wq_seq ?_ | refine wq_line ?_ | refine wq_draw (by decide +kernel) ?_ | refine wq_block ?_ | refine l_nil ?_ | refine d_nil ?_ | refine wq_skip ?_ | refine wq_ret ?_ | refine wq_exit ?_ | refine th_normal ?_ | refine th_ret ?_ | refine th_exit ?_ | refine bk_normal ?_ | refine bk_ret ?_ | refine bk_exit ?_ | refine bk_other rfl ?_)
    exact ⟨n - (k + 1), by omega, k + 1, hk', rfl, rfl, ht, by simp [put_app, put_none, *]⟩
   | false =>
    rw [hq] at hne
    have hno : entsEq xs ys = false := entsEq_no fun e => by
     subst e
     rw [hxk] at hyk
     cases hyk
     rw [entEq_iff.2 rfl] at hq; cases hq
    rw [hno]
    clear hq hxk hyk hno
    repeat (first | (refine d_pl ?_; refine d_step (s_bin eLk eLk hne) ?_) | (refine l_pl ?_; refine l_goM ?_) | (refine d_pl ?_; refine d_goM ?_) | (refine l_gd ?_; first | refine l_onG ?_ | refine l_offG ?_ | refine l_offU ?_) | (refine d_gd ?_; first | refine d_onG ?_ | refine d_offG ?_ | refine d_offU ?_) | (refine cond_pl ?_; first | refine cond_yes ?_ | refine cond_no ?_) | refine wq_seq ?_ | refine wq_line ?_ | refine wq_draw (by decide +kernel) ?_ | refine wq_block ?_ | refine l_nil ?_ | refine d_nil ?_ | refine wq_skip ?_ | refine wq_ret ?_ | refine wq_exit ?_ | refine th_normal ?_ | refine th_ret ?_ | refine th_exit ?_ | refine bk_normal ?_ | refine bk_ret ?_ | refine bk_exit ?_ | refine bk_other rfl ?_)
    exact end_1 (by first | exact .inl rfl | exact .inr rfl) ⟨rfl, List.prefix_refl _⟩
  ·have hk' : k = n := by have : ¬ k < n := by simpa using hb
                          omega
   subst hk'
   clear hb
   rw [List.take_of_length_le (by omega), List.take_of_length_le (by omega)] at hsame
   rw [hsame, entsEq_self]
   clear hsame
   refine goM ?_
   exact end_1 (by first | exact .inl rfl | exact .inr rfl) ⟨rfl, List.prefix_refl _⟩
 ·have d : ((n : Int) != (m : Int)) = true := by simp; omega
  have hno : entsEq xs ys = false := entsEq_no fun e => by subst e; omega
  rw [hno]
  clear hno hnm
  refine goM ?_
  exact end_1 (by first | exact .inl rfl | exact .inr rfl) ⟨rfl, List.prefix_refl _⟩
theorem rd_ents {K : Heap} {D : Type} {v : V} {d : DataW D} (h : RdV T K 31 v d) : ∃ es, Sl 3 entC K v es ∧ es.length * 32 ≤ reachBytes :=
 (h.plain T31 rfl).isSlice T31 rfl T73 fun vs x hr => by
  obtain ⟨hl, hf⟩ := hr.field T73 rfl
  replace hl : vs.length = 3 := hl
  obtain ⟨x0, h0⟩ := hf 0 _ _ rfl T3
  obtain ⟨x1, h1⟩ := hf 1 _ _ rfl T9
  obtain ⟨x2, h2⟩ := hf 2 _ _ rfl T3
  obtain ⟨n0, e0, _⟩ := h0.isInt T3 rfl
  obtain ⟨s, e1, _⟩ := h1.isStr T9 rfl
  obtain ⟨n2, e2, _⟩ := h2.isInt T3 rfl
  match vs, hl, e0, e1, e2 with
  | [a, b, c], _, e0, e1, e2 =>
   simp at e0 e1 e2
   subst e0; subst e1; subst e2
   exact ⟨⟨n0, s, n2⟩, rfl⟩
theorem putS_len (es : List Ent) (s : ByteArray) : (putS es s).1.length ≤ 65 := by
 unfold putS
 split
 ·simp
 ·rename_i h
  have hm : storeMay es = true := by
   cases hq : storeMay es with
   | true => rfl
   | false => rw [hq] at h; simp at h
  have := (store_of hm).len
  split
  ·split
   ·simp
   ·simp only [bump]; split <;> (try simp) <;> omega
  ·split
   ·simp
   ·simp only [List.length_append, List.length_cons, List.length_take, List.length_drop]; omega
theorem sweepS_len (es : List Ent) : (sweepS es).1.length ≤ 65 := by
 unfold sweepS
 split
 ·simp
 ·rename_i h
  have hm : storeMay es = true := by
   cases hq : storeMay es with
   | true => rfl
   | false => exact absurd hq h
  have := (store_of hm).len
  have := List.length_filter_le (fun e : Ent => decide (e.n ≠ 0)) es
  simp only
  omega
def keyE (e : Ent) : Int × ByteArray := (e.id, e.tx)
theorem store_key {es es' : List Ent} (h : Store es) (hk : es'.map keyE = es.map keyE) (ho : ∀ e ∈ es', entOk e = true) : Store es' := by
 have hl : es'.length = es.length := by have := congrArg List.length hk; simpa using this
 have at_ : ∀ (i : Nat) x, es'[i]? = some x → ∃ y, es[i]? = some y ∧ y.id = x.id ∧ y.tx = x.tx := fun i x hx => by
  have h1 : (es'.map keyE)[i]? = some (keyE x) := by rw [List.getElem?_map, hx]; rfl
  rw [hk, List.getElem?_map] at h1
  cases hy : es[i]? with
  | none => rw [hy] at h1; cases h1
  | some y =>
   rw [hy] at h1
   have := Option.some.inj h1
   unfold keyE at this
   exact ⟨y, rfl, by rw [(Prod.mk.inj this).1], by rw [(Prod.mk.inj this).2]⟩
 refine ⟨by rw [hl]; exact h.len, ho, fun i j x y hij hx hy => ?_, fun i j x y hx hy he => ?_⟩
 ·obtain ⟨x', a1, a2, _⟩ := at_ i x hx
  obtain ⟨y', b1, b2, _⟩ := at_ j y hy
  have := h.up i j x' y' hij a1 b1
  omega
 ·obtain ⟨x', a1, _, a3⟩ := at_ i x hx
  obtain ⟨y', b1, _, b3⟩ := at_ j y hy
  exact h.one i j x' y' a1 b1 (by rw [a3, b3, he])
theorem bump_key (es : List Ent) (k : Nat) (d : Int) : (bump es k d).map keyE = es.map keyE := by
 unfold bump
 split
 ·rfl
 ·rename_i e he
  rw [List.map_set]
  apply List.ext_getElem?
  intro i
  by_cases hi : k = i
  ·subst hi
   rw [List.getElem?_set_self (by simpa using (List.getElem?_eq_some_iff.1 he).1), List.getElem?_map, he]; rfl
  ·rw [List.getElem?_set_ne hi]
theorem bump_store {es : List Ent} (h : Store es) {k : Nat} {e : Ent} (he : es[k]? = some e) {d : Int} (hd : 0 ≤ e.n + d ∧ e.n + d ≤ 8) : Store (bump es k d) := by
 refine store_key h (bump_key es k d) fun x hx => ?_
 rw [bump_at d he] at hx
 rcases List.mem_or_eq_of_mem_set hx with hx | rfl
 ·exact h.ok x hx
 ·have := h.ok e (List.mem_of_getElem? he)
  unfold entOk at this ⊢
  simp only [Bool.and_eq_true, within_iff] at this ⊢
  exact ⟨this.1, hd⟩
theorem bump_len (es : List Ent) (k : Nat) (d : Int) : (bump es k d).length = es.length := by
 have := congrArg List.length (bump_key es k d); simpa using this
theorem bump_back {es : List Ent} {k : Nat} {e : Ent} (he : es[k]? = some e) : bump (bump es k 1) k (-1) = es := by
 have hlt := (List.getElem?_eq_some_iff.1 he).1
 rw [bump_at (-1) (e := ⟨e.id, e.tx, e.n + 1⟩) (by rw [bump_at 1 he, List.getElem?_set_self hlt]), bump_at 1 he, List.set_set]
 apply List.ext_getElem?
 intro i
 by_cases hi : k = i
 ·subst hi
  rw [List.getElem?_set_self hlt, he]
  congr 1
  obtain ⟨a, b, c⟩ := e
  simp only
  congr 1
  omega
 ·rw [List.getElem?_set_ne hi]
theorem findN_at {es : List Ent} (h : Store es) {k : Nat} {e : Ent} (he : es[k]? = some e) : findN es e.id = k := by
 have hlt := (List.getElem?_eq_some_iff.1 he).1
 unfold findN
 rw [List.findIdx_eq hlt]
 have hel : es[k] = e := by rw [List.getElem?_eq_getElem hlt] at he; exact Option.some.inj he
 refine ⟨by rw [hel]; exact decide_eq_true rfl, fun j hj => ?_⟩
 have := h.up j k (es[j]'(by omega)) e hj (by simp) he
 simp; omega
theorem get_some {es : List Ent} (h : Store es) {k : Nat} {e : Ent} (he : es[k]? = some e) : getS es e.id = (e.tx, true) := by
 unfold getS
 rw [of_store h, if_neg (by decide), findN_at h he, he]
theorem get_none {es : List Ent} (h : Store es) {id : Int} (hn : ∀ e ∈ es, e.id ≠ id) : getS es id = (⟨#[]⟩, false) := by
 unfold getS
 rw [of_store h, if_neg (by decide)]
 cases hf : es[findN es id]? with
 | none => rfl
 | some e =>
  have hlt := (List.getElem?_eq_some_iff.1 hf).1
  have := List.findIdx_getElem (xs := es) (p := fun e : Ent => decide (e.id = id)) (w := hlt)
  have hel : es[findN es id] = e := by rw [List.getElem?_eq_getElem hlt] at hf; exact Option.some.inj hf
  exact absurd (by rw [← hel]; exact of_decide_eq_true this) (hn e (List.mem_of_getElem? hf))
theorem get_same {es es' : List Ent} (h : Store es) (h' : Store es') {id : Int} (h1 : ∀ e ∈ es, e.id = id → ∃ x ∈ es', x.id = id ∧ x.tx = e.tx) (h2 : ∀ x ∈ es', x.id = id → ∃ e ∈ es, e.id = id) : getS es' id = getS es id := by
 by_cases hx : ∃ e ∈ es, e.id = id
 ·obtain ⟨e, he, hid⟩ := hx
  obtain ⟨x, hxm, hxi, hxt⟩ := h1 e he hid
  obtain ⟨i, hi⟩ := List.mem_iff_getElem?.1 he
  obtain ⟨j, hj⟩ := List.mem_iff_getElem?.1 hxm
  have a := get_some h hi
  have b := get_some h' hj
  rw [hid] at a
  rw [hxi] at b
  rw [a, b, hxt]
 ·rw [get_none h fun e he hid => hx ⟨e, he, hid⟩, get_none h' fun x hxm hid => hx (h2 x hxm hid)]
theorem key_mem {es es' : List Ent} (hk : es'.map keyE = es.map keyE) {e : Ent} (he : e ∈ es) : ∃ x ∈ es', x.id = e.id ∧ x.tx = e.tx := by
 have : keyE e ∈ es'.map keyE := by rw [hk]; exact List.mem_map_of_mem he
 obtain ⟨x, hx, hxe⟩ := List.mem_map.1 this
 unfold keyE at hxe
 exact ⟨x, hx, (Prod.mk.inj hxe).1, (Prod.mk.inj hxe).2⟩
theorem get_key {es es' : List Ent} (h : Store es) (h' : Store es') (hk : es'.map keyE = es.map keyE) (id : Int) : getS es' id = getS es id :=
 get_same h h' (fun e he hid => by
  obtain ⟨x, a, b, c⟩ := key_mem hk he
  exact ⟨x, a, by rw [b, hid], c⟩) fun x hx hid => by
  obtain ⟨e, a, b, _⟩ := key_mem hk.symm hx
  exact ⟨e, a, by rw [b, hid]⟩
theorem freeFrom_spec : ∀ (es : List Ent) (k : Nat), ∃ d, freeFrom es k = k + d ∧ d ≤ es.length ∧ (∀ (j : Nat) e, j < d → es[j]? = some e → e.id = ((k + j : Nat) : Int)) ∧ (∀ e, es[d]? = some e → e.id ≠ ((k + d : Nat) : Int))
 | [], k => ⟨0, rfl, by simp, by intro j e h; omega, by simp⟩
 | e :: es, k => by
  by_cases he : e.id = (k : Int)
  ·obtain ⟨d, h1, h2, h3, h4⟩ := freeFrom_spec es (k + 1)
   refine ⟨d + 1, ?_, by simpa using h2, fun j x hj hx => ?_, fun x hx => ?_⟩
   ·simp only [freeFrom, he, if_true]
    rw [h1]; omega
   ·cases j with
    | zero => simp at hx; subst hx; simpa using he
    | succ j =>
     have := h3 j x (by omega) (by simpa using hx)
     rw [this]; congr 1; omega
   ·have := h4 x (by simpa using hx)
    rw [show k + (d + 1) = k + 1 + d by omega]
    exact this
  ·refine ⟨0, ?_, Nat.zero_le _, by intro j x h; omega, fun x hx => ?_⟩
   ·simp only [freeFrom, he, if_false]; rfl
   ·simp at hx; subst hx; simpa using he
theorem freeN_spec (es : List Ent) : freeN es ≤ es.length ∧ (∀ (j : Nat) e, j < freeN es → es[j]? = some e → e.id = (j : Int)) ∧ (∀ e, es[freeN es]? = some e → e.id ≠ (freeN es : Int)) := by
 obtain ⟨d, h1, h2, h3, h4⟩ := freeFrom_spec es 0
 have : freeN es = d := by unfold freeN; rw [h1]; omega
 rw [this]
 refine ⟨h2, fun j e hj he => by have := h3 j e hj he; rw [this]; congr 1; omega, fun e he => by have := h4 e he; rwa [Nat.zero_add] at this⟩
theorem free_above {es : List Ent} (h : Store es) {j : Nat} {e : Ent} (hj : freeN es ≤ j) (he : es[j]? = some e) : (freeN es : Int) < e.id := by
 obtain ⟨h1, h2, h3⟩ := freeN_spec es
 have base : ∀ x, es[freeN es]? = some x → (freeN es : Int) < x.id := fun x hx => by
  have hne := h3 x hx
  have hok := h.ok x (List.mem_of_getElem? hx)
  unfold entOk at hok
  simp only [Bool.and_eq_true, within_iff] at hok
  have hge : (freeN es : Int) ≤ x.id := by
   cases hz : freeN es with
   | zero => exact hok.1.1.1
   | succ m =>
    rw [hz] at hx h2
    have hlt := (List.getElem?_eq_some_iff.1 hx).1
    have hp : es[m]? = some (es[m]'(by omega)) := by simp
    have a := h2 m _ (Nat.lt_succ_self m) hp
    have b := h.up m (m + 1) _ x (Nat.lt_succ_self m) hp hx
    omega
  omega
 rcases Nat.lt_or_eq_of_le hj with h4 | h4
 ·have hlt := (List.getElem?_eq_some_iff.1 he).1
  have hp : es[freeN es]? = some (es[freeN es]'(by omega)) := by simp
  have a := base _ hp
  have b := h.up _ _ _ e h4 hp he
  omega
 ·subst h4; exact base e he
def insE (es : List Ent) (s : ByteArray) (n : Int) : List Ent := es.take (freeN es) ++ ⟨(freeN es : Int), s, n⟩ :: es.drop (freeN es)
theorem ins_get {es : List Ent} (s : ByteArray) (n : Int) {i : Nat} {x : Ent} (hx : (insE es s n)[i]? = some x) : (i < freeN es ∧ es[i]? = some x) ∨ (i = freeN es ∧ x = ⟨(freeN es : Int), s, n⟩) ∨ (freeN es < i ∧ es[i - 1]? = some x) := by
 have h1 := (freeN_spec es).1
 have hl : (es.take (freeN es)).length = freeN es := by rw [List.length_take]; omega
 unfold insE at hx
 by_cases hi : i < freeN es
 ·rw [List.getElem?_append_left (by omega), List.getElem?_take, if_pos hi] at hx
  exact .inl ⟨hi, hx⟩
 ·rw [List.getElem?_append_right (by omega), hl] at hx
  by_cases hi2 : i = freeN es
  ·subst hi2
   rw [Nat.sub_self] at hx
   simp at hx
   exact .inr (.inl ⟨rfl, hx.symm⟩)
  ·obtain ⟨d, hd⟩ : ∃ d, i - freeN es = d + 1 := ⟨i - freeN es - 1, by omega⟩
   rw [hd, List.getElem?_cons_succ, List.getElem?_drop] at hx
   refine .inr (.inr ⟨by omega, ?_⟩)
   rw [show i - 1 = freeN es + d by omega]
   exact hx
theorem ins_store {es : List Ent} (h : Store es) {s : ByteArray} {n : Int} (ht : textOk s = true) (hn : 0 ≤ n ∧ n ≤ 8) (hno : ∀ e ∈ es, e.tx ≠ s) (hl : es.length < 64) : Store (insE es s n) := by
 obtain ⟨h1, h2, h3⟩ := freeN_spec es
 refine ⟨?_, fun e he => ?_, fun i j x y hij hx hy => ?_, fun i j x y hx hy he => ?_⟩
 ·unfold insE
  simp only [List.length_append, List.length_cons, List.length_take, List.length_drop]; omega
 ·obtain ⟨i, hi⟩ := List.mem_iff_getElem?.1 he
  rcases ins_get s n hi with ⟨_, g⟩ | ⟨_, rfl⟩ | ⟨_, g⟩
  ·exact h.ok e (List.mem_of_getElem? g)
  ·show (within (freeN es : Int) 0 1024 && textOk s && within n 0 8) = true
   rw [ht, within_iff.2 ⟨by omega, by omega⟩, within_iff.2 hn]; rfl
  ·exact h.ok e (List.mem_of_getElem? g)
 ·rcases ins_get s n hx with ⟨a1, a2⟩ | ⟨a1, rfl⟩ | ⟨a1, a2⟩ <;> rcases ins_get s n hy with ⟨b1, b2⟩ | ⟨b1, rfl⟩ | ⟨b1, b2⟩
  ·exact h.up i j x y hij a2 b2
  ·have := h2 i x a1 a2
   simp only; omega
  ·exact h.up i (j - 1) x y (by omega) a2 b2
  ·omega
  ·omega
  ·have := free_above h (j := j - 1) (by omega) b2
   simp only; omega
  ·omega
  ·omega
  ·exact h.up (i - 1) (j - 1) x y (by omega) a2 b2
 ·rcases ins_get s n hx with ⟨a1, a2⟩ | ⟨a1, rfl⟩ | ⟨a1, a2⟩ <;> rcases ins_get s n hy with ⟨b1, b2⟩ | ⟨b1, rfl⟩ | ⟨b1, b2⟩
  ·exact h.one i j x y a2 b2 he
  ·exact absurd he (hno x (List.mem_of_getElem? a2))
  ·have := h.one i (j - 1) x y a2 b2 he; omega
  ·exact absurd he.symm (hno y (List.mem_of_getElem? b2))
  ·omega
  ·exact absurd he.symm (hno y (List.mem_of_getElem? b2))
  ·have := h.one (i - 1) j x y a2 b2 he; omega
  ·exact absurd he (hno x (List.mem_of_getElem? a2))
  ·have := h.one (i - 1) (j - 1) x y a2 b2 he; omega
theorem ins_mem {es : List Ent} {s : ByteArray} {n : Int} {e : Ent} : e ∈ insE es s n ↔ e ∈ es ∨ e = ⟨(freeN es : Int), s, n⟩ := by
 unfold insE
 rw [List.mem_append, List.mem_cons]
 constructor
 ·rintro (h | rfl | h)
  ·exact .inl (List.mem_of_mem_take h)
  ·exact .inr rfl
  ·exact .inl (List.mem_of_mem_drop h)
 ·rintro (h | rfl)
  ·rw [← List.take_append_drop (freeN es) es, List.mem_append] at h
   rcases h with h | h
   ·exact .inl h
   ·exact .inr (.inr h)
  ·exact .inr (.inl rfl)
theorem ins_at (es : List Ent) (s : ByteArray) (n : Int) : (insE es s n)[freeN es]? = some ⟨(freeN es : Int), s, n⟩ := by
 have h1 := (freeN_spec es).1
 unfold insE
 rw [List.getElem?_append_right (by rw [List.length_take]; omega), List.length_take, Nat.min_eq_left h1, Nat.sub_self]; rfl
theorem put_cases (es : List Ent) (s : ByteArray) :
  (∃ e, e ≠ 0 ∧ putS es s = ([], 0, e)) ∨
  (∃ k x, Store es ∧ es[k]? = some x ∧ x.tx = s ∧ x.n ≠ 8 ∧ putS es s = (bump es k 1, x.id, 0)) ∨
  (Store es ∧ textOk s = true ∧ (∀ e ∈ es, e.tx ≠ s) ∧ es.length < 64 ∧ putS es s = (insE es s 1, (freeN es : Int), 0)) := by
 by_cases hm : (storeMay es && textOk s) = true
 ·rw [Bool.and_eq_true] at hm
  have h := store_of hm.1
  have hdef : putS es s = (match es[holdsN es s]? with
   | some e => if e.n = 8 then ([], 0, 1501) else (bump es (holdsN es s) 1, e.id, 0)
   | none => if es.length = 64 then ([], 0, 1501) else (insE es s 1, (freeN es : Int), 0)) := by
   unfold putS
   rw [hm.1, hm.2, if_neg (by decide)]
   cases es[holdsN es s]? <;> rfl
  cases hf : es[holdsN es s]? with
  | some e =>
   rw [hf] at hdef
   simp only at hdef
   by_cases h8 : e.n = 8
   ·rw [if_pos h8] at hdef
    exact .inl ⟨1501, by decide, hdef⟩
   ·rw [if_neg h8] at hdef
    exact .inr (.inl ⟨_, e, h, hf, holdsN_at hf, h8, hdef⟩)
  | none =>
   rw [hf] at hdef
   simp only at hdef
   by_cases h64 : es.length = 64
   ·rw [if_pos h64] at hdef
    exact .inl ⟨1501, by decide, hdef⟩
   ·rw [if_neg h64] at hdef
    refine .inr (.inr ⟨h, hm.2, fun e he hs => ?_, by have := h.len; omega, hdef⟩)
    obtain ⟨i, hi⟩ := List.mem_iff_getElem?.1 he
    have hge := List.getElem?_eq_none_iff.1 hf
    have hlt := (List.getElem?_eq_some_iff.1 hi).1
    have := holdsN_lt (s := s) (k := i) (by omega) hi
    rw [hs, txEq_self] at this; cases this
 ·refine .inl ⟨1500, by decide, ?_⟩
  unfold putS
  rw [if_pos (by simpa using hm)]
theorem drop_at {es : List Ent} (h : Store es) {k : Nat} {x : Ent} (hx : es[k]? = some x) (hn : x.n ≠ 0) : dropS es x.id = (bump es k (-1), 0) := by
 unfold dropS
 rw [of_store h, if_neg (by decide), findN_at h hx, hx]
 simp only
 rw [if_neg hn]
theorem sweep_ok {es : List Ent} (h : Store es) : sweepS es = (es.filter fun e => decide (e.n ≠ 0), 0) := by
 unfold sweepS; rw [of_store h, if_neg (by decide)]
theorem again (es : List Ent) (s : ByteArray) (h : (putS es s).2.2 = 0) : (dropS (putS es s).1 (putS es s).2.1).2 = 0 ∧ (sweepS (dropS (putS es s).1 (putS es s).2.1).1).2 = 0 ∧ (sweepS es).2 = 0 ∧ (sweepS (dropS (putS es s).1 (putS es s).2.1).1).1 = (sweepS es).1 := by
 rcases put_cases es s with ⟨e, he, hp⟩ | ⟨k, x, hs, hx, hxs, h8, hp⟩ | ⟨hs, ht, hno, hl, hp⟩
 ·rw [hp] at h; exact absurd h he
 ·have hn := ent_n hs hx
  have hlt := (List.getElem?_eq_some_iff.1 hx).1
  have hb := bump_store hs hx (d := 1) (by omega)
  have hd := drop_at hb (k := k) (x := ⟨x.id, x.tx, x.n + 1⟩) (by rw [bump_at 1 hx, List.getElem?_set_self hlt]) (by simp only; omega)
  rw [hp]
  simp only at hd ⊢
  rw [hd]
  simp only
  rw [bump_back hx, sweep_ok hs]
  exact ⟨by trivial, by trivial, by trivial, by trivial⟩
 ·have hi := ins_store hs ht (n := 1) (by decide) hno hl
  have hat := ins_at es s 1
  have hd := drop_at hi hat (by simp)
  have hb := bump_store hi hat (d := -1) (by simp only; omega)
  rw [hp]
  simp only at hd ⊢
  rw [hd]
  simp only
  have hbi : bump (insE es s 1) (freeN es) (-1) = insE es s 0 := by
   rw [bump_at (-1) hat]
   have h1 := (freeN_spec es).1
   unfold insE
   rw [List.set_append_right _ _ (by rw [List.length_take]; omega), List.length_take, Nat.min_eq_left h1, Nat.sub_self]
   rfl
  rw [sweep_ok hb, sweep_ok hs, hbi]
  refine ⟨by trivial, by trivial, by trivial, ?_⟩
  unfold insE
  rw [List.filter_append, List.filter_cons_of_neg (by simp)]
  rw [← List.filter_append, List.take_append_drop]
theorem put_leaves (es : List Ent) (s : ByteArray) (h : (putS es s).2.2 = 0) : storeMay (putS es s).1 = true ∧ getS (putS es s).1 (putS es s).2.1 = (s, true) ∧ ∀ o, o ≠ (putS es s).2.1 → getS (putS es s).1 o = getS es o := by
 rcases put_cases es s with ⟨e, he, hp⟩ | ⟨k, x, hs, hx, hxs, h8, hp⟩ | ⟨hs, ht, hno, hl, hp⟩
 ·rw [hp] at h; exact absurd h he
 ·have hn := ent_n hs hx
  have hlt := (List.getElem?_eq_some_iff.1 hx).1
  have hb := bump_store hs hx (d := 1) (by omega)
  have hg := get_some hb (k := k) (e := ⟨x.id, x.tx, x.n + 1⟩) (by rw [bump_at 1 hx, List.getElem?_set_self hlt])
  rw [hp]
  simp only at hg ⊢
  exact ⟨of_store hb, by rw [hg, hxs], fun o _ => get_key hs hb (bump_key es k 1) o⟩
 ·have hi := ins_store hs ht (n := 1) (by decide) hno hl
  have hg := get_some hi (ins_at es s 1)
  rw [hp]
  simp only at hg ⊢
  refine ⟨of_store hi, hg, fun o ho => get_same hs hi (fun e he hid => ⟨e, ins_mem.2 (.inl he), hid, rfl⟩) fun x hx hid => ?_⟩
  rcases ins_mem.1 hx with h1 | rfl
  ·exact ⟨x, h1, hid⟩
  ·exact absurd hid.symm ho
theorem memFitsM_ (H : Heap) (cb kb : Nat) (c : Cfg) (rv w v : V) (ws vs : List Int) (r m t h : Int) (hc : H[cb]? = some (.row (cfgC c rv) true)) (hk : H[kb]? = some (.row (memC w v r m t h) true)) (hw : Sl 1 intC H w ws) (hv : Sl 1 intC H v vs) (lw : ws.length ≤ 2 ^ 47) (lv : vs.length ≤ 2 ^ 47) :
  Call Tryz.prog 74 [.ptr cb 0, .ptr kb 0] H (.bool (memFits c.i c.h ws vs r m t)) H := by
 refine call_plain fit mixed Tryz.func74 rfl rfl rfl (by kernel_rfl) rfl ?_
 have l0 : loadV T 45 H kb 0 = some (.agg (chkC w v r m t)) := by
  refine loadV_agg T45 rfl ?_
  unfold Heap.loadN
  rw [hk]; rfl
 have l1 : loadV T 23 H cb 1 = some (.agg [.int .i64 c.i, .int .i64 c.h]) := by
  refine loadV_agg T23 rfl ?_
  unfold Heap.loadN
  rw [hc]; rfl
 have l2 := ld_cell (q := 0) T27 rfl hk rfl
 have c1 := chkMay_ H w v ws vs r m t hw hv lw lv
 have c2 := shapeFits_ H c.i c.h w ws hw lw
 unfold memFits
 obtain ⟨r1, e1⟩ : ∃ q, chkMay ws vs r m t = q := ⟨_, rfl⟩
 rw [e1] at c1 ⊢
 clear e1 hw hv lw lv hc hk
 cases r1
 ·refine goW ?_
  refine d_call0G c1 ?_
  refine goW ?_
  refine end_finG ?_; simp [put_app, put_none, *]
 ·refine goW ?_
  refine d_call0G c1 ?_
  refine goW ?_
  refine d_call0G c2 ?_
  refine goW ?_
  refine end_finG ?_; simp [put_app, put_none, *]
theorem memberScore_ (H : Heap) (c : Cfg) (rv w v : V) (ws vs : List Int) (r m t h : Int) (hr : Rows H rv c.rows) (hw : Sl 1 intC H w ws) (hv : Sl 1 intC H v vs) (hc : cfgMay c = true) (hf : memFits c.i c.h ws vs r m t = true) :
  Call Tryz.prog 29 [.agg (cfgC c rv), .agg (memC w v r m t h)] H (.tup [.int .i64 (lossN c.i.toNat c.h.toNat ws c.rows), .int .i64 0]) H := by
 obtain ⟨hm2, hloss, hseed, _⟩ := cfgMay_split hc
 obtain ⟨hs, hr1, hr8, hrok⟩ := lossMay_split hloss
 obtain ⟨a, b, ha, hb, ha1, ha3, hb1, hb3⟩ := shape_ab hs
 have hf' := hf
 simp only [memFits, Bool.and_eq_true] at hf'
 obtain ⟨hchk, hfi⟩ := hf'
 obtain ⟨hvw, _, hlv, _⟩ := chkMay_split hchk
 have hlw := vecMay_len hvw
 have lrow : ∀ r ∈ c.rows, r.1.length ≤ 2 ^ 47 := fun rr hrr => by
  have := hrok rr hrr
  simp only [rowOk, Bool.and_eq_true] at this
  have := vecMay_len (feeds_split this.1).2
  omega
 have hsz : ws.length = netSize a b := by
  rw [ha, hb] at hfi
  simp only [fits, Bool.and_eq_true, beq_iff_eq, decide_eq_true_eq] at hfi
  have hcast := size_cast a b
  omega
 have hfi2 : fits (a : Int) (b : Int) ws = true := by rw [← ha, ← hb]; exact hfi
 have hlo2 : lossMay (a : Int) (b : Int) c.rows = true := by rw [← ha, ← hb]; exact hloss
 refine call_pure fit mixed Tryz.func29 rfl rfl rfl (by kernel_rfl) rfl fun hM => ?_
 refine wq_seq (wq_line ?_)
 refine l_boxM T26 fun b1 H1 hM => ?_
 refine l_boxM T51 fun b2 H2 hM => ?_
 have c1 := confMay_ H2 c rv (hr.mono hM.pre) (by omega) lrow
 rw [hc] at c1
 have c2 := memFitsM_ H2 b1 b2 c rv w v ws vs r m t h (hM.row (.there .here)) (hM.row .here) (hw.mono hM.pre) (hv.mono hM.pre) (by omega) (by omega)
 rw [hf] at c2
 have c3 := lossOf_ H2 a b w rv ws c.rows (hw.mono hM.pre) (hr.mono hM.pre) hfi2 hlo2 hsz ha3 hb3
 rw [← ha, ← hb] at c3
 have e1 : c.i.toNat = a := by omega
 have e2 : c.h.toNat = b := by omega
 rw [e1, e2]
 clear hm2 hloss hseed hs hr1 hr8 hrok ha hb ha1 ha3 hb1 hb3 hchk hfi hvw hlv hlw lrow hsz hfi2 hlo2 e1 e2 hc hf
 refine goM ?_
 refine l_callG c1 ?_
 refine goM ?_
 refine l_callG c2 ?_
 refine goM ?_
 refine l_callG c3 ?_
 refine goM ?_
 exact end_2 (by first | exact .inl rfl | exact .inr rfl) ⟨rfl, hM.pre⟩
theorem memberScore_bad (H : Heap) (c : Cfg) (rv w v : V) (ws vs : List Int) (r m t h : Int) (hr : Rows H rv c.rows) (hl : c.rows.length ≤ 2 ^ 47) (hxl : ∀ r ∈ c.rows, r.1.length ≤ 2 ^ 47) (hw : Sl 1 intC H w ws) (hv : Sl 1 intC H v vs) (lw : ws.length ≤ 2 ^ 47) (lv : vs.length ≤ 2 ^ 47) (hb : (cfgMay c && memFits c.i c.h ws vs r m t) = false) :
  Call Tryz.prog 29 [.agg (cfgC c rv), .agg (memC w v r m t h)] H (.tup [.int .i64 0, .int .i64 2000]) H := by
 refine call_pure fit mixed Tryz.func29 rfl rfl rfl (by kernel_rfl) rfl fun hM => ?_
 refine wq_seq (wq_line ?_)
 refine l_boxM T26 fun b1 H1 hM => ?_
 refine l_boxM T51 fun b2 H2 hM => ?_
 have c1 := confMay_ H2 c rv (hr.mono hM.pre) hl hxl
 have c2 := memFitsM_ H2 b1 b2 c rv w v ws vs r m t h (hM.row (.there .here)) (hM.row .here) (hw.mono hM.pre) (hv.mono hM.pre) lw lv
 obtain ⟨q, hq⟩ : ∃ q, cfgMay c = q := ⟨_, rfl⟩
 rw [hq] at c1 hb
 cases q with
 | false =>
  clear hb hq c2
  refine goM ?_
  refine l_callG c1 ?_
  refine goM ?_
  exact end_2 (by first | exact .inl rfl | exact .inr rfl) ⟨rfl, hM.pre⟩
 | true =>
  rw [Bool.true_and] at hb
  rw [hb] at c2
  clear hb hq
  refine goM ?_
  refine l_callG c1 ?_
  refine goM ?_
  refine l_callG c2 ?_
  refine goM ?_
  exact end_2 (by first | exact .inl rfl | exact .inr rfl) ⟨rfl, hM.pre⟩
theorem refLoss_ (H : Heap) (i h : Nat) (w rv : V) (ws : List Int) (rs : List (List Int × Int)) (hw : Sl 1 intC H w ws) (hr : Rows H rv rs) (hf : fits i h ws = true) (hl : lossMay i h rs = true) :
  Call Tryz.prog 97 [.agg [.int .i64 i, .int .i64 h], w, rv] H (.tup [.int .i64 (lossN i h ws rs), .int .i64 0]) H := by
 obtain ⟨hs, hr1, hr8, hrok⟩ := lossMay_split hl
 have hlw : ws.length ≤ 2 ^ 47 := by
  have := hf
  simp only [fits, Bool.and_eq_true] at this
  have := vecMay_len this.1.2
  omega
 have lrow : ∀ r ∈ rs, r.1.length ≤ 2 ^ 47 := fun rr hrr => by
  have := hrok rr hrr
  simp only [rowOk, Bool.and_eq_true] at this
  have := vecMay_len (feeds_split this.1).2
  omega
 obtain ⟨n, hn⟩ : ∃ n, rs.length = n := ⟨_, rfl⟩
 refine call_pure fit mixed Tryz.func97 rfl rfl rfl (by kernel_rfl) rfl fun hM => ?_
 refine wq_seq (wq_line ?_)
 refine l_boxM T23 fun b1 H1 hM => ?_
 have c1 := refFits_ H1 i h w ws (hw.mono hM.pre) hlw
 rw [hf] at c1
 have c2 := refRowsMay_ H1 i h rv rs (hr.mono hM.pre) (by omega) lrow
 rw [hl] at c2
 have hlen : builtinP T .len [24] [rv] = some (.int .i64 (n : Int)) := by
  obtain ⟨qv, hqv, hql, _⟩ := hr
  have := hqv.len T24 rfl
  rw [hql, hn] at this
  exact this
 clear hl hs lrow
 refine goM ?_
 refine l_callG c1 ?_
 refine goM ?_
 refine l_callG c2 ?_
 refine goM ?_
 refine wq_loop (fun c ρ hp => ∃ (k : Nat) (e o : V), k ≤ n ∧ c = n - k ∧ Mem H hp [.box b1 [.int .i64 i, .int .i64 h]] ∧ ρ 1 = w ∧ ρ 2 = rv ∧ ρ 3 = .ptr b1 0 ∧ ρ 8 = .int .i64 (lossN i h ws (rs.take k)) ∧ ρ 9 = .int .i64 (k : Int)) ⟨0, .nilp, .nilp, Nat.zero_le _, rfl, hM, rfl, rfl, rfl, rfl, rfl⟩ ?_
 clear hM c1 c2
 rintro _ ρ hp ⟨k, _, _, hk, rfl, hM, g1, g2, g3, g8, g9⟩
 refine goM ?_
 refine cond_go (fun hb => ?_) (fun hb => ?_)
 ·have hk' : k < n := by simpa using hb
  clear hb
  obtain ⟨⟨xs, y⟩, hx⟩ : ∃ x, rs[k]? = some x := ⟨rs[k]'(by omega), by simp⟩
  have hok := hrok _ (List.mem_of_getElem? hx)
  simp only [rowOk, Bool.and_eq_true] at hok
  have hsn := lossN_snoc (i := i) (h := h) (ws := ws) hx
  obtain ⟨b3, o3, x, hi3, _, hlo3, hlo4, hxs⟩ := hr.at hx
  replace hlo3 := loadV_pre hM.pre hlo3
  replace hlo4 := loadV_pre hM.pre hlo4
  have hw1 := wrap_succ (n := k) (by omega)
  have c3 := refOut_ hp i h w x ws xs (hw.mono hM.pre) (hxs.mono hM.pre) hf hok.1
  clear hx hok
  refine goM ?_
  refine d_call0G c3 ?_
  have c5 := refPlus_ hp (outOf i h ws xs) (IntKind.i64.wrap (0 - y))
  have he : plus (outOf i h ws xs) (IntKind.i64.wrap (0 - y)) = errN i h ws (xs, y) := rfl
  rw [he] at c5
  have c6 := refTimes_ hp (errN i h ws (xs, y)) (errN i h ws (xs, y))
  have c7 := refPlus_ hp (lossN i h ws (rs.take k)) (times (errN i h ws (xs, y)) (errN i h ws (xs, y)))
  rw [← hsn] at c7
  clear he hsn c3
  refine goM ?_
  refine l_callG c5 ?_
  refine goM ?_
  refine l_callG c6 ?_
  refine goM ?_
  refine l_callG c7 ?_
  refine goM ?_
  exact ⟨n - (k + 1), by omega, k + 1, .nilp, .nilp, hk', rfl, hM, by simp [put_app, put_none, *]⟩
 ·have hk' : k = n := by have : ¬ k < n := by simpa using hb
                         omega
  subst hk'
  clear hb
  rw [List.take_of_length_le (by omega)] at g8
  refine goM ?_
  exact end_2 (by first | exact .inl rfl | exact .inr rfl) ⟨rfl, hM.pre⟩
def scoreR (c : Cfg) (k : Chk) : Int × Int := if (cfgMay c && kFits c k) = true then (lossN c.i.toNat c.h.toNat k.ws c.rows, 0) else (0, 2000)
def firstOk (c : Cfg) (id : Int) : Bool := cfgMay c && within id 0 (IntKind.i64.wrap (c.m - 1))
def firstKR (c : Cfg) (id : Int) : Chk := if firstOk c id = true then firstK c id else noChk
def firstSR (c : Cfg) (id : Int) : List Int := if firstOk c id = true then firstS c id else []
def firstER (c : Cfg) (id : Int) : Int := if firstOk c id = true then 0 else 2000
theorem firstOk_split {c : Cfg} {id : Int} (h : firstOk c id = true) : cfgMay c = true ∧ (0 ≤ id ∧ id < c.m) := by
 unfold firstOk at h
 rw [Bool.and_eq_true] at h
 obtain ⟨hm, _⟩ := cfgMay_split h.1
 rw [wrap_m hm, within_iff] at h
 exact ⟨h.1, by omega⟩
theorem member_Score (H : Heap) (c : Cfg) (rv w v : V) (k : Chk) (h : Int) (hr : Rows H rv c.rows) (hk : KAt H w v k) (hc : c.Fit) (hf : k.Fit) :
  Call Tryz.prog 29 [.agg (cfgC c rv), .agg (mC w v k h)] H (.tup [.int .i64 (scoreR c k).1, .int .i64 (scoreR c k).2]) H := by
 have l1 := hc.rows
 have l2 := hc.row
 have l3 := hf.ws
 have l4 := hf.vs
 unfold scoreR
 cases hok : (cfgMay c && kFits c k) with
 | false => exact memberScore_bad H c rv w v k.ws k.vs k.r k.m k.t h hr (by omega) (fun r h => by have := l2 r h; omega) hk.ws hk.vs (by omega) (by omega) hok
 | true =>
  rw [Bool.and_eq_true] at hok
  exact memberScore_ H c rv w v k.ws k.vs k.r k.m k.t h hr hk.ws hk.vs hok.1 hok.2
theorem refScoreOf_ (H : Heap) (c : Cfg) (rv w v : V) (k : Chk) (h : Int) (hr : Rows H rv c.rows) (hk : KAt H w v k) (hc : c.Fit) (hf : k.Fit) :
  Call Tryz.prog 33 [.agg (cfgC c rv), .agg (mC w v k h)] H (.tup [.int .i64 (scoreR c k).1, .int .i64 (scoreR c k).2]) H := by
 have l1 := hc.rows
 have l2 := hc.row
 have l3 := hf.ws
 have l4 := hf.vs
 refine call_pure fit mixed Tryz.func33 rfl rfl rfl (by kernel_rfl) rfl fun hM => ?_
 refine wq_seq (wq_line ?_)
 refine l_boxM T26 fun b1 H1 hM => ?_
 refine l_boxM T51 fun b2 H2 hM => ?_
 have hr2 := hr.mono hM.pre
 have hk2 := hk.mono hM.pre
 have c1 := refConfMay_ H2 c rv hr2 (by omega) (fun r h => by have := l2 r h; omega)
 have c2 := refChkMay_ H2 w v k.ws k.vs k.r k.m k.t hk2.ws hk2.vs (by omega) (by omega)
 have c3 := refFits_ H2 c.i c.h w k.ws hk2.ws (by omega)
 have s1 := hk.ws.cells
 have s2 := hk.vs.cells
 unfold scoreR kFits memFits
 obtain ⟨q1, e1⟩ : ∃ q, cfgMay c = q := ⟨_, rfl⟩
 obtain ⟨q2, e2⟩ : ∃ q, chkMay k.ws k.vs k.r k.m k.t = q := ⟨_, rfl⟩
 obtain ⟨q3, e3⟩ : ∃ q, fits c.i c.h k.ws = q := ⟨_, rfl⟩
 rw [e1] at c1 ⊢
 rw [e2] at c2 ⊢
 rw [e3] at c3 ⊢
 cases q1 with
 | false =>
  clear e1 e2 e3 c2 c3
  refine goM ?_
  refine l_callG c1 ?_
  refine goM ?_
  exact end_2 (by first | exact .inl rfl | exact .inr rfl) ⟨rfl, hM.pre⟩
 | true =>
  cases q2 with
  | false =>
   clear e1 e2 e3 c3
   refine goM ?_
   refine l_callG c1 ?_
   refine goM ?_
   refine l_callG c2 ?_
   refine goM ?_
   exact end_2 (by first | exact .inl rfl | exact .inr rfl) ⟨rfl, hM.pre⟩
  | true =>
   cases q3 with
   | false =>
    clear e1 e2 e3
    refine goM ?_
    refine l_callG c1 ?_
    refine goM ?_
    refine l_callG c2 ?_
    refine goM ?_
    refine l_callG c3 ?_
    refine goM ?_
    exact end_2 (by first | exact .inl rfl | exact .inr rfl) ⟨rfl, hM.pre⟩
   | true =>
    obtain ⟨hm2, hloss, _⟩ := cfgMay_split e1
    obtain ⟨hs, _⟩ := lossMay_split hloss
    obtain ⟨a, b, ha, hb, ha1, ha3, hb1, hb3⟩ := shape_ab hs
    have c4 := refLoss_ H2 a b w rv k.ws c.rows hk2.ws hr2 (by rw [← ha, ← hb]; exact e3) (by rw [← ha, ← hb]; exact hloss)
    rw [← ha, ← hb] at c4
    have t1 : c.i.toNat = a := by omega
    have t2 : c.h.toNat = b := by omega
    rw [t1, t2]
    clear e1 e2 e3 hm2 hloss hs ha hb t1 t2
    refine goM ?_
    refine l_callG c1 ?_
    refine goM ?_
    refine l_callG c2 ?_
    refine goM ?_
    refine l_callG c3 ?_
    refine goM ?_
    refine l_callG c4 ?_
    refine goM ?_
    exact end_2 (by first | exact .inl rfl | exact .inr rfl) ⟨rfl, hM.pre⟩
theorem refFirst_bad (H : Heap) (c : Cfg) (rv : V) (id : Int) (hr : Rows H rv c.rows) (hc : c.Fit) (hb : firstOk c id = false) :
  Call Tryz.prog 58 [.agg (cfgC c rv), .int .i64 id] H (.tup [.agg zeroMem, .str (strOf []), .int .i64 2000]) H := by
 have l1 := hc.rows
 have l2 := hc.row
 refine call_pure fit mixed Tryz.func58 rfl rfl rfl (by kernel_rfl) rfl fun hM => ?_
 refine wq_seq (wq_line ?_)
 refine l_boxM T26 fun b1 H1 hM => ?_
 refine l_newM (cs := zeroMem) T51 rfl fun b2 H2 hM => ?_
 have c1 := refConfMay_ H2 c rv (hr.mono hM.pre) (by omega) (fun r h => by have := l2 r h; omega)
 have c2 := upTo12_ H2 id 0 (IntKind.i64.wrap (c.m - 1))
 unfold firstOk at hb
 obtain ⟨q, hq⟩ : ∃ q, cfgMay c = q := ⟨_, rfl⟩
 rw [hq] at c1 hb
 cases q with
 | false =>
  clear hb hq c2
  refine goM ?_
  refine l_callG c1 ?_
  refine goM ?_
  refine l_putM T51 fun H3 hM => ?_
  refine goM ?_
  exact end_3 (by first | exact .inl rfl | exact .inr rfl) ⟨rfl, hM.pre⟩
 | true =>
  rw [Bool.true_and] at hb
  rw [hb] at c2
  clear hb hq
  refine goM ?_
  refine l_callG c1 ?_
  refine goM ?_
  refine l_callG c2 ?_
  refine goM ?_
  refine l_putM T51 fun H3 hM => ?_
  refine goM ?_
  exact end_3 (by first | exact .inl rfl | exact .inr rfl) ⟨rfl, hM.pre⟩
theorem ref_First (H : Heap) (c : Cfg) (rv : V) (id : Int) (hr : Rows H rv c.rows) (hc : c.Fit) :
  ∃ w H', Call Tryz.prog 58 [.agg (cfgC c rv), .int .i64 id] H w H' ∧ ∃ a b, w = .tup [.agg (mC a b (firstKR c id) 0), .str (strOf (firstSR c id)), .int .i64 (firstER c id)] ∧ Mem H H' [.own 1 intC b (firstKR c id).vs, .own 1 intC a (firstKR c id).ws] := by
 unfold firstKR firstSR firstER
 cases hok : firstOk c id with
 | false => exact ⟨_, H, refFirst_bad H c rv id hr hc hok, .nils, .nils, rfl, ((Mem.start H).nil 1 intC).nil 1 intC⟩
 | true =>
  obtain ⟨h1, h2⟩ := firstOk_split hok
  exact refFirst_good H c rv id hr h1 h2
end Go.Proofs.YtaofdhgkgklppaaGreat.VM
