/- Joined texts: RunT, JourP. -/
import Derived.Test.YtaofdhgkgklppaaGreatJB7
import Derived.Test.YtaofdhgkgklppaaGreatJB8
import Derived.Test.YtaofdhgkgklppaaGreatJB9
import Derived.Test.YtaofdhgkgklppaaGreatJB12
namespace Go.Proofs.YtaofdhgkgklppaaGreat.VM
open Go
set_option linter.unusedVariables false
set_option linter.unusedSimpArgs false
attribute [local irreducible] wq wqL wqD wqE wqO Th Bk EndR
set_option maxHeartbeats 8000000
structure Twin (s t : St) : Prop where
 c : t.c = s.c
 ms : t.ms.map (·.1) = s.ms.map (·.1)
 es : t.es = s.es
theorem Twin.refl (s : St) : Twin s s := ⟨rfl, rfl, rfl⟩
theorem msAt_fst (ms : List (Chk × Int)) (p : Nat) : (msAt ms p).1 = (ms.map (·.1)).getD p noChk := by
 unfold msAt
 rw [List.getD_eq_getElem?_getD, List.getD_eq_getElem?_getD, List.getElem?_map]
 cases ms[p]? <;> rfl
theorem Twin.train {s t : St} (h : Twin s t) (p : Nat) : doTrain t p = doTrain s p := by
 unfold doTrain
 rw [msAt_fst, msAt_fst, h.ms, h.c]
theorem Twin.ms1 {s t : St} (h : Twin s t) (p : Nat) : (ms1 t p).map (·.1) = (ms1 s p).map (·.1) := by
 unfold VM.ms1
 rw [List.map_set, List.map_set, h.ms, h.train]
theorem Twin.donor {s t : St} (h : Twin s t) (p : Nat) : donor1 t p = donor1 s p := by
 have e : ∀ u : St, (VM.ms1 u p).map (fun m => (scoreR u.c m.1).1) = ((VM.ms1 u p).map (·.1)).map fun k => (scoreR u.c k).1 := fun u => by rw [List.map_map]; rfl
 unfold donor1
 rw [e t, e s, h.ms1, h.c, h.train]
theorem Twin.takes {s t : St} (h : Twin s t) (p : Nat) : takes t p = takes s p := by
 unfold VM.takes
 rw [h.donor, h.train, h.c]
theorem Twin.chk {s t : St} (h : Twin s t) (p : Nat) : chk2 t p = chk2 s p := by
 have hd : dChk t p = dChk s p := by
  unfold dChk
  rw [msAt_fst, msAt_fst, h.ms1, h.donor]
 have hy : hyp2 t p = hyp2 s p := by
  unfold hyp2
  rw [hd, h.train, h.c]
 unfold chk2
 rw [h.takes, hd, hy, h.train]
theorem Twin.evs {s t : St} (h : Twin s t) (p : Nat) : es2 t p = es2 s p := by
 have hd : dChk t p = dChk s p := by
  unfold dChk
  rw [msAt_fst, msAt_fst, h.ms1, h.donor]
 have hy : hyp2 t p = hyp2 s p := by
  unfold hyp2
  rw [hd, h.train, h.c]
 have he : es1 t p = es1 s p := by unfold es1; rw [h.es]
 unfold es2
 rw [h.takes, he, hy, h.donor]
theorem Twin.do_ {s t : St} (h : Twin s t) (p : Nat) : Twin (doS s p) (doS t p) := by
 refine ⟨h.c, ?_, h.evs p⟩
 show (t.ms.set p _).map _ = (s.ms.set p _).map _
 rw [List.map_set, List.map_set, h.ms, h.chk]
theorem Twin.swept {s t : St} (h : Twin s t) : Twin s (sweptS t) := ⟨h.c, h.ms, h.es⟩
theorem Twin.pick {c : Cfg} {s t : St} (h : Twin s t) (hs : RunSt c s) (ht : RunSt c t) (x : Int) : (∃ p : Nat, doR s x = (doS s p, 0) ∧ doR t x = (doS t p, 0) ∧ RunSt c (doS s p) ∧ RunSt c (doS t p) ∧ Twin (doS s p) (doS t p)) ∨ ∃ e, e ≠ 0 ∧ doR s x = (noSt, e) ∧ doR t x = (noSt, e) := by
 have key : ∀ (p : Nat) (o : Chk × Int), s.ms[p]? = some o → ∃ o', t.ms[p]? = some o' ∧ o'.1 = o.1 := fun p o ho => by
  have hm := congrArg (fun l : List Chk => l[p]?) h.ms
  simp only [List.getElem?_map, ho] at hm
  cases ht' : t.ms[p]? with
  | none => rw [ht'] at hm; cases hm
  | some o' =>
   rw [ht'] at hm
   exact ⟨o', rfl, by simpa using hm⟩
 rcases step_cases hs x with ⟨p, o, rfl, pk, e, _⟩ | ⟨p, o, rfl, ho, hto, e, _⟩ | ⟨ho, e, _⟩
 ·obtain ⟨o', ho', heq⟩ := key p o pk.at_
  have pk' : Picks t p o' := ⟨ht.ok, ho', by rw [heq, h.c]; exact pk.t, by rw [h.es]; exact pk.room⟩
  exact .inl ⟨p, e, doR_of pk', runSt_do hs pk, runSt_do ht pk', h.do_ p⟩
 ·obtain ⟨o', ho', heq⟩ := key p o ho
  exact .inr ⟨2301, by decide, e, is_done ht.ok ho' (by rw [heq, h.c]; exact hto) (runSt_room ht)⟩
 ·have hl := ht.ok.len
  rw [ht.c] at hl
  exact .inr ⟨2300, by decide, e, pick_out (by omega)⟩
def crcBit (x : Nat) : Nat := if x % 2 = 1 then (x / 2) ^^^ 3988292384 else x / 2
def crcBits : Nat → Nat → Nat
 | 0, x => x
 | k + 1, x => crcBits k (crcBit x)
def crcByte (x : Nat) (b : Int) : Nat := crcBits 8 (x ^^^ b.toNat)
def sumN (bs : List Int) : Nat := 4294967295 ^^^ bs.foldl crcByte 4294967295
def frameH (s : List Int) : List Int := lowL s.length 2 ++ s
def frameL (s : List Int) : List Int := frameH s ++ lowL (sumN (frameH s)) 4
theorem numN_low2 {k : Nat} (h : k < 65536) : numN (lowL k 2) = k := by
 have e : lowL (k : Int) 2 = [lowK k 0, lowK k 1] := rfl
 rw [e]
 simp only [numN, lowK_0, lowK_1]
 omega
def getF (t : List Int) (at_ : Nat) : Option (List Int × Nat) :=
 if at_ + 6 ≤ t.length then
  (if (numN ((t.drop at_).take 2)).toNat ≤ 1024 ∧ at_ + 6 + (numN ((t.drop at_).take 2)).toNat ≤ t.length then
   (if frameL ((t.drop (at_ + 2)).take (numN ((t.drop at_).take 2)).toNat) = (t.drop at_).take (6 + (numN ((t.drop at_).take 2)).toNat) then some ((t.drop (at_ + 2)).take (numN ((t.drop at_).take 2)).toNat, at_ + 6 + (numN ((t.drop at_).take 2)).toNat) else none)
  else none)
 else none
theorem told {pre s x : List Int} {j : Nat} (hs : s.length < 65536) (hj : 2 ≤ j) : numN (((pre ++ ((frameL s).take j ++ x)).drop pre.length).take 2) = s.length := by
 rw [List.drop_left]
 have : ((frameL s).take j ++ x).take 2 = lowL s.length 2 := by
  unfold frameL frameH
  have hl : (lowL (s.length : Int) 2).length = 2 := lowL_len ..
  rw [List.append_assoc, List.take_append_of_le_length (by simp only [List.length_take, List.length_append, lowL_len]; omega), List.take_take, Nat.min_eq_left hj, List.take_append_of_le_length (by omega), List.take_of_length_le (by omega)]
 rw [this, numN_low2 hs]
def loadN (t : List Int) : Nat → Nat → List (List Int) × Nat
 | 0, at_ => ([], at_)
 | f + 1, at_ => match getF t at_ with
  | none => ([], at_)
  | some (s, next) => (s :: (loadN t f next).1, (loadN t f next).2)
end Go.Proofs.YtaofdhgkgklppaaGreat.VM
