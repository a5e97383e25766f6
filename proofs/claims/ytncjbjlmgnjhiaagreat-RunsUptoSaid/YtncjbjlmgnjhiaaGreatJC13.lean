/- Joined texts: BldA, BldC, BldS, BldD, BldE, JourA, LawA, ModA. -/
import Derived.Test.YtncjbjlmgnjhiaaGreatJC1
import Derived.Test.YtncjbjlmgnjhiaaGreatJC3
import Derived.Test.YtncjbjlmgnjhiaaGreatJC11
import Derived.Test.YtncjbjlmgnjhiaaGreatJC12
import Derived.Lib.Builder
import Derived.Test.YtncjbjlmgnjhiaaGreatProg
import Derived.Lib.Walk
import Derived.Lib.AppendStr
import Derived.WalkKit
import Derived.Laws.Externs
import Derived.Shelf.Strings.Builder1
import Derived.RegionTactic
import Derived.Deep.RegionLaw
namespace Go.Proofs.YtncjbjlmgnjhiaaGreat.VM
open Go Go.RowKit
set_option linter.unusedVariables false
set_option linter.unusedSimpArgs false
variable {μ μ' : Mu} {H : Heap} {w0 w w' : World}
theorem Sim.apart (s : Sim μ H w) (s' : Sim μ' H w') (t : Tr μ H w μ' H w') : Sim μ H w' where
 lt := fun b x h => ⟨(s.lt b x h).1, Nat.lt_of_lt_of_le (s.lt b x h).2 t.size⟩
 row := fun b x cs wr hx hb i v hv => by
  obtain ⟨h1, cv0, _, r0⟩ := s.row b x cs wr hx hb i v hv
  obtain ⟨_, cv, c1, r1⟩ := s'.row b x cs wr (t.ext _ _ hx) hb i v hv
  exact ⟨h1, cv, c1, VR.back t.ext r0 r1⟩
 ext := fun b x cs wr hx hb => s'.ext b x cs wr (t.ext _ _ hx) hb
 free := fun b x cs hx hb => s'.free b x cs (t.ext _ _ hx) hb
 sole := fun b x k hx hb ho b' x' k' hne hx' hb' hd => s'.sole b x k (t.ext _ _ hx) hb ho b' x' k' hne (t.ext _ _ hx') hb' hd
 mp := fun b x es hx hb => s'.mp b x es (t.ext _ _ hx) hb
theorem Sim.below {B : Nat} (s : Sim μ H w) (hB : ∀ b x, μ b = some x → x.B < B) (k : Below B w w') : Sim μ H w' := by
 have hf : ∀ b x, μ b = some x → ∀ i, w'.frozen? ⟨x.B, i, none⟩ = w.frozen? ⟨x.B, i, none⟩ := fun b x hx i => by
  unfold World.frozen?
  simp only [k.block _ (hB b x hx)]
 exact {
  lt := fun b x h => ⟨(s.lt b x h).1, Nat.lt_of_lt_of_le (s.lt b x h).2 k.size⟩
  row := fun b x cs wr hx hb i v hv => by
   obtain ⟨h1, cv0, c0, r0⟩ := s.row b x cs wr hx hb i v hv
   exact ⟨h1, cv0, (k.cell (p := ⟨x.B, x.o + i, none⟩) (hB b x hx)).trans c0, r0⟩
  ext := fun b x cs wr hx hb => ⟨(s.ext b x cs wr hx hb).1, fun i hi => by
   obtain ⟨cv, hc⟩ := (s.ext b x cs wr hx hb).2 i hi
   exact ⟨cv, (k.cell (p := ⟨x.B, x.o + i, none⟩) (hB b x hx)).trans hc⟩⟩
  free := fun b x cs hx hb i => (hf b x hx _).trans (s.free b x cs hx hb i)
  sole := s.sole
  mp := fun b x es hx hb => by
   obtain ⟨cs, cl, h1, h2⟩ := s.mp b x es hx hb
   exact ⟨cs, cl, (k.block _ (hB b x hx)).trans h1, h2⟩ }
theorem Tr.apart (t : Tr μ H w0 μ H w) (u : Tr μ H w μ' H w') : Tr μ H w0 μ H w' :=
 ⟨Mu.Le.refl _, fun b x h h' => (by rw [h] at h'; cases h'), fun _ k h => ⟨k, h, Blk.Le.refl k⟩, Nat.le_trans t.size u.size,
  fun B hB hno => (u.frame B (Nat.lt_of_lt_of_le hB t.size) hno).trans (t.frame B hB hno), u.os.trans t.os, u.tape.trans t.tape, u.output.trans t.output⟩
theorem Tr.below (t : Tr μ H w0 μ H w) (k : Below w0.heap.size w w') : Tr μ H w0 μ H w' :=
 ⟨Mu.Le.refl _, fun b x h h' => (by rw [h] at h'; cases h'), fun _ k h => ⟨k, h, Blk.Le.refl k⟩, Nat.le_trans t.size k.size,
  fun B hB hno => (k.block B hB).trans (t.frame B hB hno), k.os.trans t.os, k.tape.trans t.tape, k.output.trans t.output⟩
theorem WW {T e : TypeId} {B b : Nat} {bs : List Value} (h : Lib.IsBuilder T e B b bs w) (hk : ∀ k, B ≤ k → k < w.heap.size → w'.heap[k]? = w.heap[k]?) : Lib.IsBuilder T e B b bs w' := by
 have lt : ∀ {k : Nat} {o : Obj}, w.heap[k]? = some o → k < w.heap.size := fun {k o} h => (Array.getElem?_eq_some_iff.1 h).1
 have gen : ∀ p, Lib.BuilderAt T e B b p bs w → Lib.BuilderAt T e B b p bs w' := fun p h => by
  obtain ⟨hB, v, hb, hown, hne⟩ := h
  refine ⟨hB, v, (hk b hB (lt hb)).trans hb, ⟨hown.1, ?_⟩, hne⟩
  rcases hown.2 with h0 | ⟨g, cap, cur, h1, h2, h3, h4⟩
  ·exact .inl h0
  ·exact .inr ⟨g, cap, cur, h1, h2, (hk g h2 (lt h3)).trans h3, h4⟩
 exact h.imp (gen _) (gen _)
theorem YC {T e : TypeId} {b : Nat} {bs : List Value} (h : Lib.IsBuilder T e w0.heap.size b bs w) (hB : ∀ b x, μ b = some x → x.B < w0.heap.size) (u : Tr μ H w μ' H w') : Lib.IsBuilder T e w0.heap.size b bs w' :=
 WW h fun k hk hlt => u.frame k hlt fun b x k' hx _ _ e => absurd (hB b x hx) (by omega)
end Go.Proofs.YtncjbjlmgnjhiaaGreat.VM
namespace Go.Proofs.YtncjbjlmgnjhiaaGreat.VM
open Go Go.RowKit
set_option linter.unusedVariables false
set_option linter.unusedSimpArgs false
theorem VO : ∃ j, Tryz.prog.info? 154 = some j ∧ j.size = 2 := by
 have h : (Tryz.prog.info? 154).map (·.size) = some 2 := by kernel_rfl
 obtain ⟨j, h1, h2⟩ := Option.map_eq_some_iff.1 h
 exact ⟨j, h1, h2⟩
theorem aI : liesAt Tryz.prog Tryz.prog.depth 154 (2 / Tryz.prog.cellsOf 154) 0 154 1 = true := by kernel_rfl
set_option maxHeartbeats 1000000 in
set_option maxRecDepth 100000 in
theorem Tz (b : Nat) (w : World) (h0 : w.cell? ⟨b, 0, none⟩ = some (.pointer (some ⟨b, 0, none⟩))) :
  Calls Tryz.prog 161 #[.pointer (some ⟨b, 0, none⟩)] w fun e w' => e = .returned (.tuple #[]) ∧ w' = w := by
 obtain ⟨j, hj, _⟩ := VO
 go_enter Tryz.func161, Tryz.ntmps161
 go_wp2
 rw [Lib.run_neq_ptr_same w _ Tryz.underlying152 hj]
 go_wp2
 go_end0
 exact ⟨rfl, rfl⟩
set_option maxHeartbeats 1000000 in
set_option maxRecDepth 100000 in
theorem Rx (b : Nat) (w : World) (h0 : w.cell? ⟨b, 0, none⟩ = some (.pointer none)) (hsh : w.shape? b = some (154, 2)) (hfz : w.frozen? ⟨b, 0, none⟩ = false) :
  Calls Tryz.prog 161 #[.pointer (some ⟨b, 0, none⟩)] w fun e w' => e = .returned (.tuple #[]) ∧ w' = w.setCell ⟨b, 0, none⟩ (.pointer (some ⟨b, 0, none⟩)) := by
 obtain ⟨j, hj, hjs⟩ := VO
 go_enter Tryz.func161, Tryz.ntmps161
 go_wp2
 rw [Lib.run_to_unsafe w ⟨b, 0, none⟩ Tryz.underlying152 Tryz.underlying260 hj (by rw [hjs]; decide) hsh (Nat.zero_lt_succ 1)]
 simp only [Result.andThen]
 rw [Oper.upon_value]
 go_wp2
 rw [run_callFunc_extern Tryz.func212 (by kernel_rfl) (by kernel_rfl) (by kernel_rfl) (e := Extern.AbiNoEscape.same) (by kernel_rfl)]
 rw [Lib.run_noEscape]
 simp only [Result.andThen]
 rw [Oper.upon_value]
 go_wp2
 rw [Lib.run_from_unsafe w ⟨b, 0, none⟩ Tryz.underlying260 Tryz.underlying152 hj hsh aI]
 simp only [Result.andThen]
 rw [Oper.upon_value]
 go_wp2
 go_end0
 exact ⟨rfl, rfl⟩
theorem dM (B b : Nat) (bs : List Value) (w : World) (h : Lib.IsBuilder 154 5 B b bs w) :
  Calls Tryz.prog 161 #[.pointer (some ⟨b, 0, none⟩)] w fun e w' => e = .returned (.tuple #[]) ∧ (Lib.BuilderAt 154 5 B b (.pointer (some ⟨b, 0, none⟩)) bs w' ∧ Below B w w') := by
 rcases h with h | h
 ·refine (Rx b w h.cell0 h.shape h.frozen0).mono ?_
  rintro e w' ⟨rfl, rfl⟩
  exact ⟨rfl, h.used _, (Below.refl B w).setCell (p := ⟨b, 0, none⟩) h.1 _⟩
 ·refine (Tz b w h.cell0).mono ?_
  rintro e w' ⟨rfl, rfl⟩
  exact ⟨rfl, h, Below.refl B _⟩
set_option maxHeartbeats 2000000 in
set_option maxRecDepth 100000 in
theorem fH (B b : Nat) (bs : List Value) (s : ByteArray) (w : World) (h : Lib.IsBuilder 154 5 B b bs w) (hlen : bs.length + s.size ≤ 140737488355328) (hBw : B ≤ w.heap.size) :
  Calls Tryz.prog 101 #[.pointer (some ⟨b, 0, none⟩), .string s] w fun e w' => e = .returned (.tuple #[.int .i64 s.size, .nilIface]) ∧ (Lib.BuilderAt 154 5 B b (.pointer (some ⟨b, 0, none⟩)) (bs ++ Lib.strCells s) w' ∧ Below B w w') := by
 have hib : (Tryz.prog.info? 5).map (fun i => (i.zero, i.size, i.bytes)) = some (some (.int .u8 0), 1, 1) := by kernel_rfl
 obtain ⟨i0, hi, hz0, hz1, hz2⟩ := info_parts hib
 go_enter Tryz.func101, Tryz.ntmps101
 go_wp2_with (go_at_call 161; refine (dM B b bs _ h).mono ?_)
 rintro e w1 ⟨rfl, h1, hb1⟩
 obtain ⟨hB, v, hbk, hown, hne⟩ := h1
 have c0 : w1.cell? ⟨b, 0, none⟩ = some (.pointer (some ⟨b, 0, none⟩)) := by rw [Lib.cell_of_heap hbk]; rfl
 have c1 : w1.cell? ⟨b, 1, none⟩ = some v := by rw [Lib.cell_of_heap hbk]; rfl
 go_wp2_with (at_builtin; refine Lib.wpList_append_own_string _ rfl _ _ 68 9 rfl B 5 i0 Tryz.underlying68 Tryz.underlying9 hi hz0 hz1 hz2 _ _ _ rfl hown s rfl ?c3 ?c4 ?c5 ?_)
 case c3 => unfold maxLen; omega
 case c4 => omega
 case c5 => have := hb1.size; omega
 intro v' w2 hown' hgrow _
 have hlt : b < w1.heap.size := by
  rcases Nat.lt_or_ge b w1.heap.size with h' | h'
  ·exact h'
  ·simp [Array.getElem?_eq_none h'] at hbk
 have hb2 : w2.heap[b]? = some (.cells #[.pointer (some ⟨b, 0, none⟩), v] 154 (0, 0)) := by
  rw [hgrow.block b hlt (fun e => hne e.symm)]
  exact hbk
 have d0 : w2.cell? ⟨b, 0, none⟩ = some (.pointer (some ⟨b, 0, none⟩)) := by rw [Lib.cell_of_heap hb2]; rfl
 have d1 : w2.cell? ⟨b, 1, none⟩ = some v := by rw [Lib.cell_of_heap hb2]; rfl
 have f1 : w2.frozen? ⟨b, 1, none⟩ = false := Lib.frozen_of_heap hb2 1
 obtain ⟨ao, n', cap, rfl⟩ : ∃ ao n' cap, v' = .slice ao n' cap := by
  rcases hown'.2 with ⟨hv, _⟩ | ⟨g, cap, cur, hv, _⟩
  ·exact ⟨_, _, _, hv⟩
  ·exact ⟨_, _, _, hv⟩
 go_wp2
 go_ret2
 refine ⟨rfl, ?_, ?_⟩
 ·exact Lib.BuilderAt.put (T := 154) (e := 5) hB hb2 (bs' := bs ++ Lib.strCells s) (by simpa [Lib.strCells_length] using hown') (by decide)
 ·exact (hb1.grown hgrow (by have := hb1.size; omega) (fun k hk => (hown.lt k hk).1)).setCell (p := ⟨b, 1, none⟩) hB _
end Go.Proofs.YtncjbjlmgnjhiaaGreat.VM
namespace Go.Proofs.YtncjbjlmgnjhiaaGreat.VM
open Go Go.Shelf Go.RowKit
def eG : Go.Shelf.Ren := ⟨fun | 170 => 102 | n => n, fun | 70 => 152 | 3 => 3 | 0 => 0 | 72 => 154 | 37 => 68 | 5 => 5 | n => n, fun | n => n⟩
theorem bA : Lays.n170 Tryz.prog eG := {
 mixed := by kernel_rfl
 f170 := Tryz.func102.trans (congrArg some (by kernel_rfl))
 t0 := Tryz.underlying0
 a0 := Tryz.isAgg0
 z0 := Tryz.sizeOf0
 v0 := Tryz.zeroValue0
 t3 := Tryz.underlying3
 a3 := Tryz.isAgg3
 z3 := Tryz.sizeOf3
 v3 := Tryz.zeroValue3
 t37 := Tryz.underlying68
 a37 := Tryz.isAgg68
 z37 := Tryz.sizeOf68
 v37 := Tryz.zeroValue68
 t70 := Tryz.underlying152
 a70 := Tryz.isAgg152
 z70 := Tryz.sizeOf152
 v70 := Tryz.zeroValue152
 t72 := Tryz.underlying154
 a72 := Tryz.isAgg154
 z72 := Tryz.sizeOf154
 v72 := Tryz.zeroValue154 }
theorem Builder_Len (B b : Nat) (bs : List Value) (w : World) (h : Lib.IsBuilder 154 5 B b bs w) :
  Calls Tryz.prog 102 #[.pointer (some ⟨b, 0, none⟩)] w fun e w' => e = .returned (.int .i64 bs.length) ∧ w' = w := Any.Builder_Len bA B b bs w h
def Zo : Go.Shelf.Ren := ⟨fun | 169 => 103 | n => n, fun | 70 => 152 | 9 => 9 | 0 => 0 | 72 => 154 | 37 => 68 | 127 => 221 | 3 => 3 | 5 => 5 | n => n, fun | n => n⟩
theorem cD : Lays.n169 Tryz.prog Zo := {
 mixed := by kernel_rfl
 f169 := Tryz.func103.trans (congrArg some (by kernel_rfl))
 t0 := Tryz.underlying0
 a0 := Tryz.isAgg0
 z0 := Tryz.sizeOf0
 v0 := Tryz.zeroValue0
 t3 := Tryz.underlying3
 a3 := Tryz.isAgg3
 z3 := Tryz.sizeOf3
 v3 := Tryz.zeroValue3
 t9 := Tryz.underlying9
 a9 := Tryz.isAgg9
 z9 := Tryz.sizeOf9
 v9 := Tryz.zeroValue9
 t37 := Tryz.underlying68
 a37 := Tryz.isAgg68
 z37 := Tryz.sizeOf68
 v37 := Tryz.zeroValue68
 t70 := Tryz.underlying152
 a70 := Tryz.isAgg152
 z70 := Tryz.sizeOf152
 v70 := Tryz.zeroValue152
 t72 := Tryz.underlying154
 a72 := Tryz.isAgg154
 z72 := Tryz.sizeOf154
 v72 := Tryz.zeroValue154
 t127 := Tryz.underlying221
 a127 := Tryz.isAgg221
 z127 := Tryz.sizeOf221
 v127 := Tryz.zeroValue221 }
theorem Zn : Builder.Extra Tryz.prog Zo := {
 sizeBuilder := by kernel_rfl
 liesBuilder := by kernel_rfl
 t5 := Tryz.underlying5
 a5 := Tryz.isAgg5
 z5 := Tryz.sizeOf5
 v5 := Tryz.zeroValue5
 infoByte := by kernel_rfl
 cellsByte := by kernel_rfl
 sizeByte := by kernel_rfl
 neB5 := by decide }
theorem Builder_String_any (B b : Nat) (l : List UInt8) (w : World) (h : Lib.IsBuilder 154 5 B b (Lib.byteCells l) w) (hBw : B ≤ w.heap.size) :
  Calls Tryz.prog 103 #[.pointer (some ⟨b, 0, none⟩)] w fun e w' => e = .returned (.string ⟨l.toArray⟩) ∧ Below B w w' := Any.Builder_String_any cD Zn B b l w h hBw
end Go.Proofs.YtncjbjlmgnjhiaaGreat.VM
namespace Go.Proofs.YtncjbjlmgnjhiaaGreat.VM
open Go Go.RowKit
set_option linter.unusedVariables false
set_option linter.unusedSimpArgs false
set_option maxHeartbeats 8000000 in
set_option maxRecDepth 100000 in
theorem Xn {μ : Mu} {H : Heap} {w : World} (s : Sim μ H w) (a : Option Addr) (bk o c n : Nat) (ha : n = 0 ∨ a = some ⟨bk, o, none⟩) (F : Nat → List UInt8) (G : Nat → ByteArray) (S : Nat → ByteArray)
  (hrow : ∀ wr, Sim μ H wr → ∀ j, j < n → wr.cell? ⟨bk, o + j, none⟩ = some (.string (S j)))
  (hput : ∀ wr, Sim μ H wr → ∀ j, j < n → Calls Tryz.prog 100 #[.string (S j)] wr fun e w' => e = .returned (.tuple #[.string (G j), .int .i64 0]) ∧ ∃ μ', Sim μ' H w' ∧ Tr μ H wr μ' H w')
  (hF0 : F 0 = []) (hF : ∀ j, j < n → Lib.byteCells (F (j + 1)) = Lib.byteCells (F j) ++ Lib.strCells (G j)) (hFl : ∀ j, (Lib.byteCells (F j)).length ≤ 65536) (hGl : ∀ j, j < n → (Lib.byteCells (F j)).length + (G j).size ≤ 65536) (hn : n ≤ 256) :
  Calls Tryz.prog 48 #[.slice a n c] w fun e w' => e = .returned (.tuple #[.string ⟨(F n).toArray⟩, .int .i64 0]) ∧ Sim μ H w' ∧ Tr μ H w μ H w' := by
 have hlt : Hid (∀ b x, μ b = some x → x.B < w.heap.size) := fun b x h => (s.lt b x h).2
 have HR : Hid (∀ wr, Sim μ H wr → ∀ j, j < n → wr.cell? ⟨bk, o + j, none⟩ = some (.string (S j))) := hrow
 have HP : Hid (∀ wr, Sim μ H wr → ∀ j, j < n → Calls Tryz.prog 100 #[.string (S j)] wr fun e w' => e = .returned (.tuple #[.string (G j), .int .i64 0]) ∧ ∃ μ', Sim μ' H w' ∧ Tr μ H wr μ' H w') := hput
 have HF : Hid (∀ j, j < n → Lib.byteCells (F (j + 1)) = Lib.byteCells (F j) ++ Lib.strCells (G j)) := hF
 have HL : Hid (∀ j, (Lib.byteCells (F j)).length ≤ 65536) := hFl
 have HG : Hid (∀ j, j < n → (Lib.byteCells (F j)).length + (G j).size ≤ 65536) := hGl
 have HS0 : Hid (Sim μ H w) := s
 clear hrow hput hF hFl hGl s
 go_enter Tryz.func48, Tryz.ntmps48
 go_wp2_with fail
 go_loopw [11] (fun i wr => ∃ k : Nat, k ≤ n ∧ i = .int .i64 k ∧ Hid (Lib.IsBuilder 154 5 w.heap.size w.heap.size (Lib.byteCells (F k)) wr) ∧ Hid (Sim μ H wr) ∧ Hid (Tr μ H w μ H wr)) (fun i _ => n - (intOf i).toNat)
 case atStart =>
  have hbel := (Below.refl w.heap.size w).alloc (Nat.le_refl _) (.cells #[.pointer none, .slice none 0 0] 154)
  exact ⟨0, Nat.zero_le _, rfl, by rw [hF0]; exact Lib.fresh_isBuilder _ _ w, HS0.out.below hlt.out hbel, (Tr.refl μ H w).below hbel⟩
 case round =>
  obtain ⟨k, hk, rfl, HB, HS, HT⟩ := hrel
  have hsz := HT.out.size
  by_cases hkn : k < n
  ·obtain rfl : a = some ⟨bk, o, none⟩ := ha.resolve_left (by omega)
   clear ha
   have hc := HR.out wr HS.out k hkn
   have HPk : Hid (Calls Tryz.prog 100 #[.string (S k)] wr fun e w' => e = .returned (.tuple #[.string (G k), .int .i64 0]) ∧ ∃ μ', Sim μ' H w' ∧ Tr μ H wr μ' H w') := HP.out wr HS.out k hkn
   clear HP HR
   go_wp2_with fail
   refine HPk.out.mono ?_
   rintro e w1 ⟨rfl, μ', hs1, ht1⟩
   have HB1 : Hid _ := YC HB.out hlt.out ht1
   have HS1 : Hid _ := HS.out.apart hs1 ht1
   have HT1 : Hid _ := HT.out.apart ht1
   have hsz1 := HT1.out.size
   clear HB HS HT HPk hs1 ht1 hc hsz
   go_wp2_with fail
   refine (fH w.heap.size w.heap.size _ (G k) w1 HB1.out (by have := HG.out k hkn; omega) hsz1).mono ?_
   rintro e w2 ⟨rfl, hb2, hbel⟩
   rw [← HF.out k hkn] at hb2
   have HB2 : Hid _ := (Or.inr hb2 : Lib.IsBuilder 154 5 w.heap.size w.heap.size (Lib.byteCells (F (k + 1))) w2)
   have HS2 : Hid _ := HS1.out.below hlt.out hbel
   have HT2 : Hid _ := HT1.out.below hbel
   have hle := HL.out (k + 1)
   clear HB1 HS1 HT1 hb2 hbel hsz1 HF HG HL
   go_wp2_with fail
   refine (Builder_Len w.heap.size w.heap.size _ w2 HB2.out).mono ?_
   rintro e w3 ⟨rfl, rfl⟩
   generalize (Lib.byteCells (F (k + 1))).length = q at hle
   go_wp2
   exact ⟨⟨k + 1, by omega, by go_num, HB2, HS2, HT2⟩, by simp [intOf]; omega⟩
  ·have hke : k = n := by omega
   subst hke
   clear ha
   clear HP HR HF HG HL
   go_wp2_with fail
   refine (Builder_String_any w.heap.size w.heap.size _ wr HB.out hsz).mono ?_
   rintro e w5 ⟨rfl, hb5⟩
   have HS5 : Hid _ := HS.out.below hlt.out hb5
   have HT5 : Hid _ := HT.out.below hb5
   clear HB HS HT hb5
   go_wp2
   go_ret2
   exact ⟨rfl, HS5.out, HT5.out⟩
end Go.Proofs.YtncjbjlmgnjhiaaGreat.VM
namespace Go.Proofs.YtncjbjlmgnjhiaaGreat.VM
open Go Go.RowKit
set_option linter.unusedVariables false
set_option linter.unusedSimpArgs false
def u8L (bs : List Int) : List UInt8 := bs.map fun n => UInt8.ofNat n.toNat
theorem cL (a b : List Int) : u8L (a ++ b) = u8L a ++ u8L b := by simp [u8L]
theorem Tg (bs : List Int) : Lib.strCells (strOf bs) = Lib.byteCells (u8L bs) := by rw [Lib.strCells_eq]; simp [strOf, u8L]
theorem WO (bs : List Int) : (Lib.byteCells (u8L bs)).length = bs.length := by rw [Lib.byteCells_length]; simp [u8L]
theorem XM {μ : Mu} {H : Heap} {w : World} (s : Sim μ H w) (x : List Int) (ho : okB x) (hx : x.length ≤ 1024) :
  Calls Tryz.prog 100 #[.string (strOf x)] w fun e w' => e = .returned (.tuple #[.string (strOf (Cc x)), .int .i64 0]) ∧ ∃ μ', Sim μ' H w' ∧ Tr μ H w μ' H w' := by
 refine ((dD H x ho hx).2 μ w #[.string (strOf x)] s (by simp only [VRs, VR]; exact ⟨_, _, rfl, rfl, rfl⟩)).mono ?_
 rintro e w' ⟨cv, μ', rfl, h1, h2, h3⟩
 refine ⟨?_, μ', h2, h3⟩
 simp only [VR, VRs] at h1
 obtain ⟨cw, rfl, a, l1, e1, rfl, b, l2, e2, rfl, e3⟩ := h1
 subst e3; subst e2
 rw [BG e1]
theorem eD (H : Heap) (v : V) (xs : List (List Int)) (hv : Sl 1 bsC H v xs) (h1 : ∀ x ∈ xs, x.length = 1) (ho : ∀ x ∈ xs, okB x) (hn : xs.length ≤ 256) :
  Call Tryz.prog 48 [v] H (.tup [.str (strOf (CJ xs)), .int .i64 0]) H := by
 refine ⟨⟨_, Tryz.func48, by kernel_rfl, by kernel_rfl⟩, fun μ w cargs s hvr => ?_⟩
 simp only [VRs] at hvr
 obtain ⟨cv, _, he, hcv, rfl⟩ := hvr
 rw [BG he]
 obtain ⟨a, bk, o, c, rfl, ha, hrow⟩ : ∃ a bk o c, cv = .slice a xs.length c ∧ (xs.length = 0 ∨ a = some ⟨bk, o, none⟩) ∧ ∀ wr, Sim μ H wr → ∀ j, j < xs.length → wr.cell? ⟨bk, o + j, none⟩ = some (.string (strOf (xs.getD j []))) := by
  rcases hv with ⟨rfl, rfl⟩ | ⟨b, off, cap, t, cs, wr0, rfl, k1, k2, k3, k4⟩
  ·simp only [VR] at hcv
   exact ⟨none, 0, 0, 0, hcv, .inl rfl, fun wr _ j hj => absurd hj (Nat.not_lt_zero _)⟩
  ·simp only [VR] at hcv
   obtain ⟨ad, c, rfl, q1, q2, q3, q4⟩ := hcv
   by_cases h0 : xs.length = 0
   ·exact ⟨some ad, 0, 0, c, rfl, .inl h0, fun wr _ j hj => absurd hj (by omega)⟩
   ·rcases q4 with ⟨_, q4⟩ | ⟨x, o, hx, rfl, q5, q6⟩
    ·omega
    ·obtain rfl := q6 (by omega)
     refine ⟨some _, x.B, x.o + o, c, rfl, .inr rfl, fun wr hs j hj => ?_⟩
     have hxj : xs[j]? = some (xs.getD j []) := by simp [List.getD_eq_getElem?_getD, hj]
     have hR := k4 j _ hxj
     unfold bsC at hR
     rw [Nat.mul_one] at hR
     have hlt : o + j < cs.length := by omega
     rw [List.drop_eq_getElem_cons hlt, List.take_succ_cons, List.take_zero, List.cons.injEq] at hR
     have hcj : cs[o + j]? = some (V.str (strOf (xs.getD j []))) := by rw [List.getElem?_eq_getElem hlt, hR.1]
     obtain ⟨_, cv, c1, r1⟩ := hs.row b x cs wr0 hx k2 (o + j) _ hcj
     simp only [VR] at r1
     rw [Nat.add_assoc, c1, r1]
 have htk : ∀ k, (CJ (xs.take k)).length = 7 * (xs.take k).length := fun k => OC _ fun x hx => h1 x (List.mem_of_mem_take hx)
 have hw := Xn s a bk o c xs.length ha (fun k => u8L (CJ (xs.take k))) (fun j => strOf (Cc (xs.getD j []))) (fun j => strOf (xs.getD j [])) hrow
  (fun wr hs j hj => by
   have hm : xs.getD j [] ∈ xs := by
    have hxj : xs[j]? = some (xs.getD j []) := by simp [List.getD_eq_getElem?_getD, hj]
    exact List.mem_of_getElem? hxj
   exact XM hs _ (ho _ hm) (by rw [h1 _ hm]; omega))
  rfl
  (fun j hj => by
   have hxj : xs[j]? = some (xs.getD j []) := by simp [List.getD_eq_getElem?_getD, hj]
   have e : CJ (xs.take (j + 1)) = CJ (xs.take j) ++ Cc (xs.getD j []) := by
    rw [List.take_add_one, hxj]
    simp [CJ]
   simp only [e, cL, Lib.byteCells_append, Tg])
  (fun j => by rw [WO, htk]; have : (xs.take j).length ≤ 256 := by rw [List.length_take]; omega
               omega)
  (fun j hj => by
   have hm : xs.getD j [] ∈ xs := by
    have hxj : xs[j]? = some (xs.getD j []) := by simp [List.getD_eq_getElem?_getD, hj]
    exact List.mem_of_getElem? hxj
   rw [WO, htk, DW, KS, h1 _ hm]
   have : (xs.take j).length ≤ 256 := by rw [List.length_take]; omega
   omega)
  hn
 refine hw.mono ?_
 rintro e w' ⟨rfl, hs, ht⟩
 refine ⟨_, μ, rfl, ?_, hs, ht⟩
 simp only [List.take_length]
 simp only [VR, VRs]
 exact ⟨_, rfl, _, _, rfl, rfl, _, _, rfl, rfl, rfl⟩
end Go.Proofs.YtncjbjlmgnjhiaaGreat.VM
namespace Go.Proofs.YtncjbjlmgnjhiaaGreat.VM
open Go
set_option linter.unusedVariables false
set_option linter.unusedSimpArgs false
attribute [local irreducible] wq wqL wqD wqE wqO Th Bk EndR
set_option maxHeartbeats 8000000
theorem Ua {ps : List Int} (h : (ps.all fun x => within x 0 7) = false) : Fw ps = ([], 2501) := by unfold Fw; rw [if_pos h]
theorem Sf {ps : List Int} (h : (ps.all fun x => within x 0 7) = true) (hl : 256 < ps.length) : Fw ps = ([], 2500) := by unfold Fw; rw [if_neg (by rw [h]; decide), if_pos hl]
theorem Se {ps : List Int} (h : (ps.all fun x => within x 0 7) = true) (hl : ¬ 256 < ps.length) : Fw ps = (CJ (Gn ps), 0) := by unfold Fw; rw [if_neg (by rw [h]; decide), if_neg hl]
theorem XK {x : Int} (h : within x 0 7 = true) : IntKind.u8.wrap x = x := by
 have := within_iff.1 h
 rw [wrap_u8]; omega
theorem XI {ps : List Int} (h : (ps.all fun x => within x 0 7) = true) : ∀ s ∈ Gn ps, okB s := fun s hs => by
 unfold Gn at hs
 obtain ⟨x, hx, rfl⟩ := List.mem_map.1 hs
 intro b hb
 simp at hb
 subst hb
 have := within_iff.1 (List.all_eq_true.1 h b hx)
 omega
theorem Pp (H : Heap) (v : V) (ps : List Int) (hp : Sl 1 AH H v ps) (hl : ps.length ≤ 2 ^ 40) :
  Call Tryz.prog 19 [v] H (.tup [.str (strOf (Fw ps).1), .int .i64 (Fw ps).2]) H := by
 have hlen := hp.len T27 rfl
 obtain ⟨n, hn⟩ : ∃ n, ps.length = n := ⟨_, rfl⟩
 rw [hn] at hlen hl
 obtain ⟨R, hR⟩ : ∃ R, Fw ps = R := ⟨_, rfl⟩
 rw [hR]
 refine AQ fit mixed Tryz.func19 rfl rfl rfl (by kernel_rfl) rfl fun hM => ?_
 refine goM ?_
 replace hM := hM.nil 1 bsC
 refine AT (fun cc ρ h => ∃ (k : Nat) (u : V), k ≤ n ∧ cc = n - k ∧ (∀ (j : Nat) x, j < k → ps[j]? = some x → within x 0 7 = true) ∧ Mem H h [.own 1 bsC u ((Gn ps).take k)] ∧ ρ 0 = v ∧ ρ 4 = u ∧ ρ 9 = v ∧ ρ 10 = .int .i64 (n : Int) ∧ ρ 11 = .int .i64 (k : Int)) ⟨0, .AN, Nat.zero_le _, rfl, (fun j x hj => absurd hj (Nat.not_lt_zero _)), hM, by simp [AD, AB, BT, *]⟩ ?_
 repeat clear hM
 rintro _ ρ h ⟨k, u, hk, rfl, hgood, hM, g0, g4, g9, g10, g11⟩
 by_cases hk' : k < n
 ·have dk : decide ((k : Int) < (n : Int)) = true := decide_eq_true (by omega)
  have hw := AG (n := k) (by omega)
  obtain ⟨x, hx⟩ : ∃ x, ps[k]? = some x := ⟨ps[k]'(by omega), by simp⟩
  obtain ⟨b2, o2, _, hi2, rfl, _, hlo2, _⟩ := (hp.mono hM.pre).get T27 rfl T3 rfl hx
  have ho2 := AF T3 rfl hlo2
  have c1 := Hi h x
  cases hxi : within x 0 7 with
  | false =>
   rw [hxi] at c1
   have hb : Fw ps = ([], 2501) := Ua (by rw [List.all_eq_false]; exact ⟨x, List.mem_of_getElem? hx, by rw [hxi]; decide⟩)
   rw [hR] at hb
   subst hb
   clear hxi hx hlo2 hgood
   refine goM ?_
   refine AA c1 ?_
   refine goM ?_
   exact An ⟨rfl, hM.pre⟩
  | true =>
   rw [hxi] at c1
   have wx := XK hxi
   have hg2 : ∀ (j : Nat) y, j < k + 1 → ps[j]? = some y → within y 0 7 = true := fun j y hj hy => by
    by_cases hjk : j < k
    ·exact hgood j y hjk hy
    ·obtain rfl : j = k := by omega
     rw [hx] at hy
     cases hy
     exact hxi
   have htk : (Gn ps).take k ++ [[x]] = (Gn ps).take (k + 1) := by
    have : (Gn ps)[k]? = some [x] := by unfold Gn; rw [List.getElem?_map, hx]; rfl
    rw [List.take_add_one, this]; rfl
   have hal : ((Gn ps).take k).length ≤ n := by rw [List.length_take]; omega
   clear hxi hx hlo2 hgood
   refine goM ?_
   refine AA c1 ?_
   refine goM ?_
   refine Aa EO [x] [.int .u8 x] T68 rfl T5 rfl (Cells.one (sz := 1) rfl rfl) (by decide) fun e1 H1 hM => ?_
   refine goM ?_
   refine BC (NU eLk (hM.sl .here)) ?_
   refine goM ?_
   refine Aa bsC [[x]] [.str (strOf [x])] T70 rfl T9 rfl (Cells.one (sz := 1) rfl rfl) (by decide) fun e2 H2 hM => ?_
   refine goM ?_
   refine Bg (hM.sl .here) (xs := (Gn ps).take k) (hh := .there (.there .here)) (hb := by simp only [List.length_cons, List.length_nil]; have : (T 9).get!.bytes = 16 := rfl; omega) fun u2 H3 hM => ?_
   rw [htk] at hM
   replace hM := hM.drop.drop
   clear htk
   refine goM ?_
   exact ⟨n - (k + 1), by omega, k + 1, u2, hk', rfl, hg2, hM, by simp [AD, AB, *]⟩
 ·have dk : decide ((k : Int) < (n : Int)) = false := decide_eq_false (by omega)
  have hall : (ps.all fun x => within x 0 7) = true := by
   rw [List.all_eq_true]
   intro x hx
   obtain ⟨j, hj⟩ := List.mem_iff_getElem?.1 hx
   have := (List.getElem?_eq_some_iff.1 hj).1
   exact hgood j x (by omega) hj
  rw [List.take_of_length_le (by rw [QC]; omega)] at hM
  clear hgood
  by_cases h256 : 256 < n
  ·have d1 : decide ((n : Int) > 256) = true := decide_eq_true (by omega)
   have hb := Sf hall (by omega)
   rw [hR] at hb
   subst hb
   clear hall
   refine goM ?_
   exact An ⟨rfl, hM.pre⟩
  ·have d1 : decide ((n : Int) > 256) = false := decide_eq_false (by omega)
   have hb := Se hall (by omega)
   rw [hR] at hb
   subst hb
   have c1 := eD h u (Gn ps) (hM.sl .here) (XJ ps) (XI hall) (by rw [QC]; omega)
   clear hall
   refine goM ?_
   refine AA c1 ?_
   refine goM ?_
   exact An ⟨rfl, hM.pre⟩
theorem gJ {c : Cfg} {t : List Int} {a : St} {e : Int} (h : EX c t = (a, e)) (H : Heap) {rv : V} (hr : Rows H rv c.rows) (cf : c.Fit) (ho : okB t) (hl : t.length ≤ 2 ^ 47) :
  ∃ w H', Call Tryz.prog 21 [.agg (BJ c rv), .str (strOf t)] H w H' ∧ ∃ q : SV, w = .tup [.agg (q.c a), .int .i64 e] ∧ q.Ok a ∧ Mem H H' [q.own a] := by
 obtain ⟨w, H', h1, h2⟩ := XT H c rv t hr cf ho hl
 exact ⟨w, H', h1, aH h h2⟩
end Go.Proofs.YtncjbjlmgnjhiaaGreat.VM
namespace Go.Proofs.YtncjbjlmgnjhiaaGreat.VM
open Go
set_option linter.unusedVariables false
set_option linter.unusedSimpArgs false
theorem fF (n : Int) : 0 ≤ IntKind.u64.wrap n ∧ IntKind.u64.wrap n < 18446744073709551616 := by
 unfold IntKind.wrap
 simp only [IntKind.bits, IntKind.signed, Bool.false_and, Bool.false_eq_true, if_false]
 exact ⟨Int.emod_nonneg _ (by decide), Int.emod_lt_of_pos _ (by decide)⟩
theorem cN {n : Int} (h1 : 0 ≤ n) (h2 : n < 18446744073709551616) : IntKind.u64.wrap n = n := by
 unfold IntKind.wrap
 simp only [IntKind.bits, IntKind.signed, Bool.false_and, Bool.false_eq_true, if_false]
 exact Int.emod_eq_of_lt h1 h2
def eN (a m : Int) : Nat := ((IntKind.u64.wrap a).tmod m).toNat
structure gS (a m : Int) (q : Nat) : Prop where
 lt : (q : Int) < m
 u : IntKind.u64.wrap m = m
 r : (IntKind.u64.wrap a).tmod m = (q : Int)
 i : IntKind.i64.wrap (q : Int) = (q : Int)
 nz : (m = 0) = False
theorem fJ (a : Int) {m : Int} (h1 : 1 ≤ m) (h2 : m ≤ 1000000) : gS a m (eN a m) := by
 have hu := fF a
 have hlt := Int.tmod_lt_of_pos (IntKind.u64.wrap a) (show 0 < m by omega)
 have hnn := Int.tmod_nonneg m hu.1
 have e : (IntKind.u64.wrap a).tmod m = ((eN a m : Nat) : Int) := by unfold eN; rw [Int.toNat_of_nonneg hnn]
 exact ⟨by omega, cN (by omega) (by omega), e, wrap_i64 (by omega) (by omega), eq_false (by omega)⟩
end Go.Proofs.YtncjbjlmgnjhiaaGreat.VM
