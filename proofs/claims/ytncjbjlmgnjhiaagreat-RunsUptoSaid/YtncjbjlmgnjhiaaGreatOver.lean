/- The parts of a row's check that look at the program alone. -/
import Derived.Test.YtncjbjlmgnjhiaaGreatRows
import Derived.Test.YtncjbjlmgnjhiaaGreatChecked
import Derived.JoinedCond
import Derived.OpenShut
import Derived.SizedLaws
import Derived.WalkKit
import Derived.ProofKit
namespace Go.Proofs.YtncjbjlmgnjhiaaGreat.Over
open Go Go.ChangeShapes Go.WideShapes Go.ChangeAt Go.RowKit
def sHead : List Char := ([104, 97, 114, 110, 101, 115, 115] : List Nat).map Char.ofNat
def sSum : List Char := ([50, 57, 98, 49, 102, 54, 101, 101, 48, 49, 52, 102, 100, 48, 50, 98, 97, 50, 51, 101, 102, 102, 54, 55, 51, 52, 51, 56, 50, 101, 98, 55, 99, 101, 99, 53, 98, 100, 52, 97, 100, 100, 52, 51, 98, 56, 54, 97, 102, 57, 101, 56, 54, 48, 52, 57, 56, 99, 52, 100, 53, 55, 52, 57] : List Nat).map Char.ofNat
def sCut : List Char := ([99, 117, 116] : List Nat).map Char.ofNat
def sRest : List Char := ([97, 116, 32, 103, 114, 97, 102, 116, 101, 114, 47, 103, 114, 97, 102, 116, 101, 114, 108, 97, 119, 50, 53, 46, 82, 117, 110, 115, 32, 103, 114, 97, 102, 116, 101, 114, 47, 103, 114, 97, 102, 116, 101, 114, 108, 97, 119, 50, 53, 46, 82, 117, 110, 70, 111, 114, 109, 115, 32, 103, 114, 97, 102, 116, 101, 114, 47, 103, 114, 97, 102, 116, 101, 114, 108, 97, 119, 50, 53, 46, 82, 117, 110, 83, 116, 101, 112, 115, 32, 103, 114, 97, 102, 116, 101, 114, 47, 103, 114, 97, 102, 116, 101, 114, 108, 97, 119, 50, 53, 46, 82, 117, 110, 74, 111, 117, 114, 110, 97, 108, 32, 103, 114, 97, 102, 116, 101, 114, 47, 103, 114, 97, 102, 116, 101, 114, 108, 97, 119, 50, 53, 46, 82, 117, 110, 79, 100, 100, 32, 103, 114, 97, 102, 116, 101, 114, 47, 103, 114, 97, 102, 116, 101, 114, 108, 97, 119, 50, 53, 46, 82, 117, 110, 83, 119, 101, 112, 116, 32, 103, 114, 97, 102, 116, 101, 114, 47, 103, 114, 97, 102, 116, 101, 114, 108, 97, 119, 50, 53, 46, 82, 117, 110, 80, 114, 101, 102, 105, 120, 32, 103, 114, 97, 102, 116, 101, 114, 47, 103, 114, 97, 102, 116, 101, 114, 108, 97, 119, 50, 53, 46, 82, 117, 110, 73, 100, 108, 101, 32, 103, 114, 97, 102, 116, 101, 114, 47, 103, 114, 97, 102, 116, 101, 114, 108, 97, 119, 50, 53, 46, 82, 117, 110, 68, 111, 110, 101, 32, 103, 114, 97, 102, 116, 101, 114, 47, 103, 114, 97, 102, 116, 101, 114, 116, 111, 112, 46, 84, 111, 112, 67, 117, 116, 32, 103, 114, 97, 102, 116, 101, 114, 47, 103, 114, 97, 102, 116, 101, 114, 116, 111, 112, 46, 84, 111, 112, 84, 119, 105, 99, 101] : List Nat).map Char.ofNat
def sp : Char := Char.ofNat 32
theorem hS : Tryz.pinned.checked.prog.initOrder = String.ofList (sHead ++ sp :: (sSum ++ sp :: (sCut ++ sp :: sRest))) := by kernel_rfl
theorem words_nil (r : List Char) : wordsSigns (sp :: r) = [] :: wordsSigns r := rfl
theorem words_cons {c : Char} (hc : (c == sp) = false) (r : List Char) {w : List Char} {ws : List (List Char)} (h : wordsSigns r = w :: ws) : wordsSigns (c :: r) = (c :: w) :: ws := by
  have hne : c ≠ sp := by intro e; rw [e] at hc; simp at hc
  rw [wordsSigns.eq_def]
  split
  · rename_i h2; cases h2
  · rename_i h2; injection h2 with h3 h4; exact absurd h3 hne
  · rename_i h2; injection h2 with h3 h4; subst h3; subst h4; rw [h]
theorem words_word : ∀ (w : List Char), (w.all fun c => !(c == sp)) = true → ∀ r, wordsSigns (w ++ sp :: r) = w :: wordsSigns r
  | [], _, r => words_nil r
  | c :: w, h, r => by
    simp only [List.all_cons, Bool.and_eq_true, Bool.not_eq_true'] at h
    exact words_cons h.1 _ (words_word w h.2 r)
theorem hW : behindMainWord (wordsSigns Tryz.pinned.checked.prog.initOrder.toList) = sCut :: wordsSigns sRest := by
  rw [hS, String.toList_ofList, words_word sHead (by decide +kernel), words_word sSum (by decide +kernel), words_word sCut (by decide +kernel)]
  exact (if_pos (by decide +kernel) : (if (sHead == "harness".toList || sHead == "ownmain".toList) && isSumSigns sSum then sCut :: wordsSigns sRest else sHead :: sSum :: (sCut :: wordsSigns sRest)) = _)
theorem strip (X : List (List Char)) : stripLifts liftWords (sCut :: X) = ([], sCut :: X) := by
  have h : ∀ o ∈ liftWords, (sCut == o.toList) = false := by decide +kernel
  have gen : ∀ os : List String, (∀ o ∈ os, (sCut == o.toList) = false) → stripLifts os (sCut :: X) = ([], sCut :: X) := by
    intro os
    induction os with
    | nil => intro _; rfl
    | cons o os ih =>
      intro h
      unfold stripLifts
      rw [if_neg (by rw [h o List.mem_cons_self]; decide)]
      exact ih fun o ho => h o (List.mem_cons_of_mem _ ho)
  exact gen _ h

theorem eC : (sCut == "cut".toList) = true := by decide +kernel
theorem eG : (sCut == "gc".toList) = false := by decide +kernel
theorem eS : (sCut == "spec".toList) = false := by decide +kernel
theorem eK : (sCut == "carried".toList) = false := by decide +kernel
theorem eF : (sCut == "finals".toList) = false := by decide +kernel
theorem later_ : Tryz.pinned.checked.prog.laysLater = false := by kernel_rfl
theorem reflect_ : Tryz.pinned.checked.prog.bearsReflect = false := by kernel_rfl
theorem door_ : Tryz.pinned.checked.prog.doorFits [] = true := by kernel_rfl

theorem mayEnter_of (P : Program) (c : List Char) (rest : List (List Char)) (hw : behindMainWord (wordsSigns P.initOrder.toList) = c :: rest) (hs : stripLifts liftWords (c :: rest) = ([], c :: rest)) (hc : (c == "cut".toList) = true)
    (h1 : P.laysLater = false) (h2 : P.bearsReflect = false) (h3 : P.doorFits [] = true) : P.mayEnter = true := by
  unfold Program.mayEnter
  rw [hw]
  dsimp only
  rw [hs, h1, h2, h3]
  have := eq_of_beq hc
  simp [this]
theorem make_of (P : Program) (c : List Char) (rest : List (List Char)) (hw : behindMainWord (wordsSigns P.initOrder.toList) = c :: rest) (hc : (c == "cut".toList) = true)
    (hg : (c == "gc".toList) = false) (hp : (c == "spec".toList) = false) : P.make = some .cut := by
  unfold Program.make
  rw [hw]
  dsimp only
  rw [hg, hp, hc]
  rfl
theorem headLifts_of (P : Program) (c : List Char) (rest : List (List Char)) (hw : behindMainWord (wordsSigns P.initOrder.toList) = c :: rest) (hs : stripLifts liftWords (c :: rest) = ([], c :: rest)) : P.headLifts = [] := by
  unfold Program.headLifts
  rw [hw]
  dsimp only
  rw [hs]
  dsimp only
  split <;> rfl
theorem lifts_of (P : Program) (c : List Char) (rest : List (List Char)) (hw : behindMainWord (wordsSigns P.initOrder.toList) = c :: rest) (hs : stripLifts liftWords (c :: rest) = ([], c :: rest)) (hk : (c == "carried".toList) = false) : P.liftsFinal = false := by
  unfold Program.liftsFinal
  rw [hw, headLifts_of P c rest hw hs]
  have h : ((c :: rest).head? == some "carried".toList) = false := hk
  dsimp only
  rw [h]
  rfl
theorem mayEnter_ : Tryz.pinned.checked.prog.mayEnter = true := mayEnter_of _ _ _ hW (strip _) eC later_ reflect_ door_
theorem make_ : Tryz.pinned.checked.prog.make = some .cut := make_of _ _ _ hW eC eG eS
theorem lifts_ : Tryz.pinned.checked.prog.liftsFinal = false := lifts_of _ _ _ hW (strip _) eK
theorem laid_ : laidOutB Tryz.pinned.checked.prog = true := by kernel_rfl
theorem rowed_ : mapsRowed Tryz.pinned.checked.prog = true := by kernel_rfl
theorem heard_ : Tryz.pinned.checked.prog.stopsHeard = true := by kernel_rfl
#print axioms lifts_
end Go.Proofs.YtncjbjlmgnjhiaaGreat.Over
