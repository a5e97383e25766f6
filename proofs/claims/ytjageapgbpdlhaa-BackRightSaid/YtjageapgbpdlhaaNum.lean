/- The document's numbers: what the layers compute, in plain Lean. -/
import Derived.Test.YtjageapgbpdlhaaVmY
namespace Go.Proofs.Ytjageapgbpdlhaa.VM
open Go
set_option linter.unusedVariables false
set_option linter.unusedSimpArgs false

def intC (cs : List V) (n : Int) : Prop := cs = [.int .i64 n]
abbrev W (n : Int) : Int := IntKind.i64.wrap n
def within (x a b : Int) : Bool := decide (x ≥ a) && decide (x ≤ b)
abbrev fixMay (x : Int) : Bool := within x (-1073741824) 1073741824
/-- at least a, at most b -/
def clip (x a b : Int) : Int := if x < a then a else if x > b then b else x
def cut (x : Int) : Int := clip x (-1073741824) 1073741824
def plus (a b : Int) : Int := cut (W (a + b))
def times (a b : Int) : Int := cut ((W (a * b)).fdiv 65536)
def hard (x : Int) : Int := clip x (-65536) 65536
def rise (x : Int) : Int := if x > -65536 ∧ x < 65536 then 65536 else 0
def neg (x : Int) : Int := W (0 - x)
def dotFrom (s : Int) : List Int → List Int → Int
  | x :: xs, y :: ys => dotFrom (plus s (times x y)) xs ys
  | _, _ => s
abbrev dot (xs ys : List Int) : Int := dotFrom 0 xs ys
def vecMay (xs : List Int) : Bool := decide (xs.length ≤ 16) && xs.all fun x => fixMay x
def shapeMay (i h : Int) : Bool := within i 1 3 && within h 1 3
def netSize (i h : Nat) : Nat := h * (i + 1) + h + 1
def fits (i h : Int) (ws : List Int) : Bool := shapeMay i h && vecMay ws && decide ((ws.length : Int) = h * (i + 1) + h + 1)
def feeds (i : Int) (xs : List Int) : Bool := decide ((xs.length : Int) = i) && vecMay xs
/-- one hidden unit -/
def unit (i : Nat) (ws xs : List Int) (h : Nat) : Int := plus (ws.getD (h * (i + 1) + i) 0) (dot ((ws.drop (h * (i + 1))).take i) xs)
def units (i h : Nat) (ws xs : List Int) : List Int := (List.range h).map (unit i ws xs)
def acts (hs : List Int) : List Int := hs.map hard
def tells (i h : Nat) (ws hs : List Int) : Int := plus (ws.getD (h * (i + 1) + h) 0) (dot ((ws.drop (h * (i + 1))).take h) (acts hs))
def outOf (i h : Nat) (ws xs : List Int) : Int := tells i h ws (units i h ws xs)
/-- the gradient -/
def gradRow (i h : Nat) (ws xs : List Int) (e : Int) (hs : List Int) (k : Nat) : List Int :=
  let d := times (times e (ws.getD (h * (i + 1) + k) 0)) (rise (hs.getD k 0))
  xs.map (fun x => times d x) ++ [d]
def grad (i h : Nat) (ws xs : List Int) (y : Int) : List Int :=
  let hs := units i h ws xs
  let e := plus (tells i h ws hs) (neg y)
  (List.range h).flatMap (gradRow i h ws xs e hs) ++ ((acts hs).map (fun a => times e a) ++ [e])

theorem within_iff {x a b : Int} : within x a b = true ↔ a ≤ x ∧ x ≤ b := by simp [within]
theorem clip_mem (x : Int) {a b : Int} (h : a ≤ b) : a ≤ clip x a b ∧ clip x a b ≤ b := by unfold clip; split <;> (try split) <;> omega
theorem clip_id {x a b : Int} (h1 : a ≤ x) (h2 : x ≤ b) : clip x a b = x := by unfold clip; rw [if_neg (by omega), if_neg (by omega)]
theorem cut_may (x : Int) : fixMay (cut x) = true := within_iff.2 (clip_mem x (by decide))
theorem plus_may (a b : Int) : fixMay (plus a b) = true := cut_may _
theorem times_may (a b : Int) : fixMay (times a b) = true := cut_may _
end Go.Proofs.Ytjageapgbpdlhaa.VM
