/- Joined texts: Tab, StoreP, NetA, NetB, NetC, IntA, RowA, RowB, DrawA, DrawB, ConfA, ConfB. -/
import Derived.Test.YtncjbjlmgnjhiaaGreatJC3
import Derived.Test.YtncjbjlmgnjhiaaGreatRows
import Derived.KernelRfl
namespace Go.Proofs.YtncjbjlmgnjhiaaGreat.VM
open Go
def tabL : List (Option TI) := [
 none,
 none,
 some { k := .int .i64, size := 1, bytes := 8, zero := [.int .i64 0] },
 some { k := .int .i64, size := 1, bytes := 8, zero := [.int .i64 0] },
 some { k := .bool, size := 1, bytes := 1, zero := [.bool false] },
 some { k := .int .u8, size := 1, bytes := 1, zero := [.int .u8 0] },
 some { k := .int .u8, size := 1, bytes := 1, zero := [.int .u8 0] },
 some { k := .strct [(2, 0), (3, 1), (4, 2), (6, 3)], size := 4, bytes := 24, zero := [.int .i64 0, .int .i64 0, .bool false, .int .u8 0] },
 some { k := .strct [(2, 0), (3, 1), (4, 2), (6, 3)], size := 4, bytes := 24, zero := [.int .i64 0, .int .i64 0, .bool false, .int .u8 0] },
 some { k := .str, size := 1, bytes := 16, zero := [.str ByteArray.empty] },
 some { k := .str, size := 1, bytes := 16, zero := [.str ByteArray.empty] },
 some { k := .str, size := 1, bytes := 16, zero := [.str ByteArray.empty] },
 some { k := .int .u64, size := 1, bytes := 8, zero := [.int .u64 0] },
 some { k := .strct [(9, 0), (12, 1)], size := 2, bytes := 24, zero := [.str ByteArray.empty, .int .u64 0] },
 some { k := .strct [(9, 0), (12, 1)], size := 2, bytes := 24, zero := [.str ByteArray.empty, .int .u64 0] },
 some { k := .ptr, size := 1, bytes := 8, zero := [.Co] },
 some { k := .ptr, size := 1, bytes := 8, zero := [.Co] },
 some { k := .ptr, size := 1, bytes := 8, zero := [.Co] },
 some { k := .strct [(17, 0)], size := 1, bytes := 8, zero := [.Co] },
 some { k := .strct [(17, 0)], size := 1, bytes := 8, zero := [.Co] },
 none,
 some { k := .int .i32, size := 1, bytes := 4, zero := [.int .i32 0] },
 some { k := .strct [(3, 0), (3, 1)], size := 2, bytes := 16, zero := [.int .i64 0, .int .i64 0] },
 some { k := .strct [(3, 0), (3, 1)], size := 2, bytes := 16, zero := [.int .i64 0, .int .i64 0], cmp := [.int, .int] },
 some { k := .slice 111, size := 1, bytes := 24, zero := [.AN] },
 some { k := .strct [(3, 0), (23, 1), (24, 3), (3, 4), (3, 5), (3, 6), (3, 7), (4, 8)], size := 9, bytes := 88, zero := [.int .i64 0, .int .i64 0, .int .i64 0, .AN, .int .i64 0, .int .i64 0, .int .i64 0, .int .i64 0, .bool false] },
 some { k := .strct [(3, 0), (23, 1), (24, 3), (3, 4), (3, 5), (3, 6), (3, 7), (4, 8)], size := 9, bytes := 88, zero := [.int .i64 0, .int .i64 0, .int .i64 0, .AN, .int .i64 0, .int .i64 0, .int .i64 0, .int .i64 0, .bool false] },
 some { k := .slice 3, size := 1, bytes := 24, zero := [.AN] },
 some { k := .slice 84, size := 1, bytes := 24, zero := [.AN] },
 some { k := .slice 119, size := 1, bytes := 24, zero := [.AN] },
 some { k := .slice 63, size := 1, bytes := 24, zero := [.AN] },
 some { k := .strct [(26, 0), (28, 9), (29, 10), (30, 11)], size := 12, bytes := 160, zero := [.int .i64 0, .int .i64 0, .int .i64 0, .AN, .int .i64 0, .int .i64 0, .int .i64 0, .int .i64 0, .bool false, .AN, .AN, .AN] },
 some { k := .strct [(26, 0), (28, 9), (29, 10), (30, 11)], size := 12, bytes := 160, zero := [.int .i64 0, .int .i64 0, .int .i64 0, .AN, .int .i64 0, .int .i64 0, .int .i64 0, .int .i64 0, .bool false, .AN, .AN, .AN] },
 none,
 none,
 none,
 some { k := .int .i64, size := 1, bytes := 8, zero := [.int .i64 0] },
 none,
 none,
 none,
 none,
 none,
 none,
 none,
 none,
 none,
 none,
 none,
 none,
 none,
 none,
 none,
 none,
 none,
 none,
 none,
 none,
 none,
 none,
 none,
 none,
 none,
 some { k := .strct [(3, 0), (9, 1), (3, 2)], size := 3, bytes := 32, zero := [.int .i64 0, .str ByteArray.empty, .int .i64 0] },
 some { k := .strct [(3, 0), (9, 1), (3, 2)], size := 3, bytes := 32, zero := [.int .i64 0, .str ByteArray.empty, .int .i64 0], cmp := [.int, .str, .int] },
 none,
 none,
 none,
 none,
 some { k := .slice 5, size := 1, bytes := 24, zero := [.AN] },
 none,
 some { k := .slice 9, size := 1, bytes := 24, zero := [.AN] },
 some { k := .int .u64, size := 1, bytes := 8, zero := [.int .u64 0] },
 none,
 none,
 none,
 none,
 none,
 none,
 none,
 some { k := .strct [(3, 0), (3, 1)], size := 2, bytes := 16, zero := [.int .i64 0, .int .i64 0] },
 some { k := .strct [(3, 0), (3, 1)], size := 2, bytes := 16, zero := [.int .i64 0, .int .i64 0], cmp := [.int, .int] },
 some { k := .strct [(27, 0), (27, 1), (80, 2), (3, 4)], size := 5, bytes := 72, zero := [.AN, .AN, .int .i64 0, .int .i64 0, .int .i64 0] },
 some { k := .strct [(27, 0), (27, 1), (80, 2), (3, 4)], size := 5, bytes := 72, zero := [.AN, .AN, .int .i64 0, .int .i64 0, .int .i64 0] },
 some { k := .strct [(82, 0), (3, 5)], size := 6, bytes := 80, zero := [.AN, .AN, .int .i64 0, .int .i64 0, .int .i64 0, .int .i64 0] },
 some { k := .strct [(82, 0), (3, 5)], size := 6, bytes := 80, zero := [.AN, .AN, .int .i64 0, .int .i64 0, .int .i64 0, .int .i64 0] },
 none,
 none,
 none,
 none,
 none,
 none,
 none,
 none,
 none,
 none,
 none,
 none,
 none,
 none,
 none,
 none,
 none,
 none,
 none,
 none,
 none,
 none,
 none,
 none,
 none,
 some { k := .strct [(27, 0), (3, 1)], size := 2, bytes := 32, zero := [.AN, .int .i64 0] },
 some { k := .strct [(27, 0), (3, 1)], size := 2, bytes := 32, zero := [.AN, .int .i64 0] },
 none,
 none,
 none,
 none,
 none,
 none,
 some { k := .strct [(3, 0), (3, 1), (3, 2), (3, 3), (80, 4)], size := 6, bytes := 48, zero := List.replicate 6 (.int .i64 0) },
 some { k := .strct [(3, 0), (3, 1), (3, 2), (3, 3), (80, 4)], size := 6, bytes := 48, zero := List.replicate 6 (.int .i64 0), cmp := [.int, .int, .int, .int, .int, .int] },
 none,
 none,
 none,
 none,
 none,
 none,
 none,
 none,
 none,
 none,
 none,
 none,
 none,
 none,
 none,
 none,
 none,
 none,
 none,
 none,
 none,
 some { k := .ptr, size := 1, bytes := 8, zero := [.Co] },
 some { k := .ptr, size := 1, bytes := 8, zero := [.Co] },
 some { k := .ptr, size := 1, bytes := 8, zero := [.Co] },
 some { k := .strct [(32, 0), (3, 12), (143, 13)], size := 14, bytes := 176, zero := [.int .i64 0, .int .i64 0, .int .i64 0, .AN, .int .i64 0, .int .i64 0, .int .i64 0, .int .i64 0, .bool false, .AN, .AN, .AN, .int .i64 0, .Co] },
 some { k := .strct [(32, 0), (3, 12), (143, 13)], size := 14, bytes := 176, zero := [.int .i64 0, .int .i64 0, .int .i64 0, .AN, .int .i64 0, .int .i64 0, .int .i64 0, .int .i64 0, .bool false, .AN, .AN, .AN, .int .i64 0, .Co] },
 none,
 none,
 none,
 none,
 none,
 none,
 some { k := .ptr, size := 1, bytes := 8, zero := [.Co] },
 some { k := .strct [(152, 0), (68, 1)], size := 2, bytes := 32, zero := [.Co, .AN] },
 some { k := .strct [(152, 0), (68, 1)], size := 2, bytes := 32, zero := [.Co, .AN] },
 none,
 none,
 none,
 none,
 none,
 none,
 none,
 none,
 none,
 none,
 none,
 some { k := .ptr, size := 1, bytes := 8, zero := [.Co] },
 none,
 none,
 none,
 none,
 none,
 none,
 none,
 none,
 none,
 none,
 none,
 none,
 none,
 none,
 none,
 none,
 none,
 none,
 none,
 none,
 none,
 none,
 some { k := .int .u32, size := 1, bytes := 4, zero := [.int .u32 0] },
 none,
 none,
 none,
 none,
 some { k := .ptr, size := 1, bytes := 8, zero := [.Co] },
 some { k := .slice 199, size := 1, bytes := 24, zero := [.AN] },
 some { k := .strct [(26, 0), (195, 9)], size := 10, bytes := 112, zero := [.int .i64 0, .int .i64 0, .int .i64 0, .AN, .int .i64 0, .int .i64 0, .int .i64 0, .int .i64 0, .bool false, .AN] },
 some { k := .strct [(26, 0), (195, 9)], size := 10, bytes := 112, zero := [.int .i64 0, .int .i64 0, .int .i64 0, .AN, .int .i64 0, .int .i64 0, .int .i64 0, .int .i64 0, .bool false, .AN] },
 some { k := .strct [(82, 0), (3, 5), (4, 6)], size := 7, bytes := 88, zero := [.AN, .AN, .int .i64 0, .int .i64 0, .int .i64 0, .int .i64 0, .bool false] },
 some { k := .strct [(82, 0), (3, 5), (4, 6)], size := 7, bytes := 88, zero := [.AN, .AN, .int .i64 0, .int .i64 0, .int .i64 0, .int .i64 0, .bool false] },
 none,
 some { k := .ptr, size := 1, bytes := 8, zero := [.Co] },
 none,
 none,
 none,
 none,
 none,
 none,
 none,
 none,
 none,
 none,
 none,
 none,
 none,
 none,
 none,
 none,
 none,
 none,
 none,
 some { k := .ptr, size := 1, bytes := 8, zero := [.Co] },
 none,
 none,
 none,
 none,
 some { k := .ptr, size := 1, bytes := 8, zero := [.Co] },
 some { k := .arr 8 3, size := 8, bytes := 64, zero := List.replicate 8 (.int .i64 0) },
 some { k := .strct [(227, 0), (227, 8)], size := 16, bytes := 128, zero := List.replicate 16 (.int .i64 0) },
 some { k := .strct [(227, 0), (227, 8)], size := 16, bytes := 128, zero := List.replicate 16 (.int .i64 0) },
 none,
 none,
 some { k := .ptr, size := 1, bytes := 8, zero := [.Co] },
 some { k := .map, size := 1, bytes := 8, zero := [.nilm] },
 none,
 none,
 none,
 none,
 none,
 none,
 none,
 none,
 none,
 some { k := .ptr, size := 1, bytes := 8, zero := [.Co] },
 none,
 some { k := .ptr, size := 1, bytes := 8, zero := [.Co] },
 none,
 none,
 none,
 none,
 none,
 none,
 none,
 none,
 none,
 none,
 none,
 none,
 none,
 none,
 none,
 none,
 none,
 none,
 some { k := .strct [(23, 0), (27, 2)], size := 3, bytes := 40, zero := [.int .i64 0, .int .i64 0, .AN] },
 some { k := .strct [(23, 0), (27, 2)], size := 3, bytes := 40, zero := [.int .i64 0, .int .i64 0, .AN] },
 none,
 none,
 some { k := .slice 27, size := 1, bytes := 24, zero := [.AN] },
 none,
 none,
 none,
 none,
 none,
 none,
 none,
 none,
 none,
 none,
 none,
 none,
 some { k := .strct [(17, 0), (17, 1), (17, 2), (9, 3)], size := 4, bytes := 40, zero := [.Co, .Co, .Co, .str ByteArray.empty] },
 some { k := .strct [(17, 0), (17, 1), (17, 2), (9, 3)], size := 4, bytes := 40, zero := [.Co, .Co, .Co, .str ByteArray.empty] },
 some { k := .arr 0 16, size := 0, bytes := 0, zero := [] },
 some { k := .strct [(283, 0)], size := 0, bytes := 0, zero := [] },
 some { k := .strct [(283, 0)], size := 0, bytes := 0, zero := [] },
 some { k := .int .u8, size := 1, bytes := 1, zero := [.int .u8 0] },
 some { k := .int .u8, size := 1, bytes := 1, zero := [.int .u8 0] },
 none,
 some { k := .int .i32, size := 1, bytes := 4, zero := [.int .i32 0] },
 some { k := .int .i32, size := 1, bytes := 4, zero := [.int .i32 0] },
 none,
 none
]
def T : Tab := fun t => (tabL[t]?).join
set_option maxRecDepth 100000 in
theorem fit : Fits Tryz.prog T := aR rfl (by kernel_rfl)
theorem mixed : Tryz.prog.follows .mixedOrders = true := by kernel_rfl
theorem laidOut : laidOutB Tryz.prog = true := by kernel_rfl
theorem T3 : T 3 = some { k := .int .i64, size := 1, bytes := 8, zero := [.int .i64 0] } := rfl
theorem T4 : T 4 = some { k := .bool, size := 1, bytes := 1, zero := [.bool false] } := rfl
theorem T5 : T 5 = some { k := .int .u8, size := 1, bytes := 1, zero := [.int .u8 0] } := rfl
theorem T9 : T 9 = some { k := .str, size := 1, bytes := 16, zero := [.str ByteArray.empty] } := rfl
theorem T23 : T 23 = some { k := .strct [(3, 0), (3, 1)], size := 2, bytes := 16, zero := [.int .i64 0, .int .i64 0], cmp := [.int, .int] } := rfl
theorem T24 : T 24 = some { k := .slice 111, size := 1, bytes := 24, zero := [.AN] } := rfl
theorem T26 : T 26 = some { k := .strct [(3, 0), (23, 1), (24, 3), (3, 4), (3, 5), (3, 6), (3, 7), (4, 8)], size := 9, bytes := 88, zero := [.int .i64 0, .int .i64 0, .int .i64 0, .AN, .int .i64 0, .int .i64 0, .int .i64 0, .int .i64 0, .bool false] } := rfl
theorem T27 : T 27 = some { k := .slice 3, size := 1, bytes := 24, zero := [.AN] } := rfl
theorem T28 : T 28 = some { k := .slice 84, size := 1, bytes := 24, zero := [.AN] } := rfl
theorem T29 : T 29 = some { k := .slice 119, size := 1, bytes := 24, zero := [.AN] } := rfl
theorem T30 : T 30 = some { k := .slice 63, size := 1, bytes := 24, zero := [.AN] } := rfl
theorem T32 : T 32 = some { k := .strct [(26, 0), (28, 9), (29, 10), (30, 11)], size := 12, bytes := 160, zero := [.int .i64 0, .int .i64 0, .int .i64 0, .AN, .int .i64 0, .int .i64 0, .int .i64 0, .int .i64 0, .bool false, .AN, .AN, .AN] } := rfl
theorem T63 : T 63 = some { k := .strct [(3, 0), (9, 1), (3, 2)], size := 3, bytes := 32, zero := [.int .i64 0, .str ByteArray.empty, .int .i64 0], cmp := [.int, .str, .int] } := rfl
theorem T68 : T 68 = some { k := .slice 5, size := 1, bytes := 24, zero := [.AN] } := rfl
theorem T70 : T 70 = some { k := .slice 9, size := 1, bytes := 24, zero := [.AN] } := rfl
theorem T80 : T 80 = some { k := .strct [(3, 0), (3, 1)], size := 2, bytes := 16, zero := [.int .i64 0, .int .i64 0], cmp := [.int, .int] } := rfl
theorem T82 : T 82 = some { k := .strct [(27, 0), (27, 1), (80, 2), (3, 4)], size := 5, bytes := 72, zero := [.AN, .AN, .int .i64 0, .int .i64 0, .int .i64 0] } := rfl
theorem T84 : T 84 = some { k := .strct [(82, 0), (3, 5)], size := 6, bytes := 80, zero := [.AN, .AN, .int .i64 0, .int .i64 0, .int .i64 0, .int .i64 0] } := rfl
theorem GD : T 111 = some { k := .strct [(27, 0), (3, 1)], size := 2, bytes := 32, zero := [.AN, .int .i64 0] } := rfl
theorem GY : T 119 = some { k := .strct [(3, 0), (3, 1), (3, 2), (3, 3), (80, 4)], size := 6, bytes := 48, zero := List.replicate 6 (.int .i64 0), cmp := [.int, .int, .int, .int, .int, .int] } := rfl
theorem dI : T 141 = some { k := .ptr, size := 1, bytes := 8, zero := [.Co] } := rfl
theorem gT : T 143 = some { k := .ptr, size := 1, bytes := 8, zero := [.Co] } := rfl
theorem gU : T 145 = some { k := .strct [(32, 0), (3, 12), (143, 13)], size := 14, bytes := 176, zero := [.int .i64 0, .int .i64 0, .int .i64 0, .AN, .int .i64 0, .int .i64 0, .int .i64 0, .int .i64 0, .bool false, .AN, .AN, .AN, .int .i64 0, .Co] } := rfl
theorem Xw : T 227 = some { k := .arr 8 3, size := 8, bytes := 64, zero := List.replicate 8 (.int .i64 0) } := rfl
theorem WU : T 233 = some { k := .map, size := 1, bytes := 8, zero := [.nilm] } := rfl
theorem gW : T 265 = some { k := .strct [(23, 0), (27, 2)], size := 3, bytes := 40, zero := [.int .i64 0, .int .i64 0, .AN] } := rfl
theorem QX : T 268 = some { k := .slice 27, size := 1, bytes := 24, zero := [.AN] } := rfl
end Go.Proofs.YtncjbjlmgnjhiaaGreat.VM
namespace Go.Proofs.YtncjbjlmgnjhiaaGreat.VM
open Go
set_option linter.unusedVariables false
set_option linter.unusedSimpArgs false
attribute [local irreducible] wq wqL wqD wqE wqO Th Bk EndR
set_option maxHeartbeats 8000000
structure Ent where
 id : Int
 tx : ByteArray
 n : Int
abbrev Hy (e : Ent) : List V := [.int .i64 e.id, .str e.tx, .int .i64 e.n]
def BE (cs : List V) (e : Ent) : Prop := cs = Hy e
theorem Du (es : List Ent) : Cells 3 BE (es.flatMap Hy) es := Fc (R := BE) Hy (fun x => ⟨rfl, rfl⟩) es
def EF (a b : ByteArray) : Bool := a.data.toList == b.data.toList
theorem Tl (b : ByteArray) : ∀ (n i : Nat) (r : List UInt8), b.size - i = n → ByteArray.toList.loop b i r = r.reverse ++ b.data.toList.drop i := by
 intro n
 induction n with
 | zero =>
  intro i r h
  rw [ByteArray.toList.loop, if_neg (by omega)]
  have : b.data.toList.length ≤ i := by
   have : b.data.size = b.size := rfl
   simp; omega
  rw [List.drop_eq_nil_of_le this, List.append_nil]
 | succ n ih =>
  intro i r h
  have hs : i < b.data.size := by show i < b.size; omega
  rw [ByteArray.toList.loop, if_pos (by omega), ih (i + 1) _ (by omega), List.reverse_cons, List.append_assoc, List.drop_eq_getElem_cons (l := b.data.toList) (i := i) (by simpa using hs)]
  congr 1
  show b.get! i :: _ = _
  congr 1
  show b.data[i]! = _
  rw [getElem!_pos b.data i hs]
  simp
theorem toList_data (b : ByteArray) : b.toList = b.data.toList := by
 unfold ByteArray.toList
 rw [Tl b _ 0 [] rfl]
 simp
theorem GB (a b : ByteArray) : (a.toList == b.toList) = EF a b := by rw [toList_data, toList_data]; rfl
theorem Ft {a b : ByteArray} : EF a b = true ↔ a = b := by
 unfold EF
 rw [beq_iff_eq]
 constructor
 ·intro h
  apply ByteArray.ext
  exact Array.toList_inj.1 h
 ·intro h; rw [h]
theorem FZ (a : ByteArray) : EF a a = true := Ft.2 rfl
def DX (s : ByteArray) : Bool := decide (1 ≤ s.size) && decide (s.size ≤ 256)
def Gf (e : Ent) : Bool := within e.id 0 1024 && DX e.tx && within e.n 0 8
def Bj (es : List Ent) (s : ByteArray) : Nat := es.findIdx fun e => EF e.tx s
def okAt (es : List Ent) (i : Nat) : Bool := match es[i]? with
 | none => true
 | some e => Gf e && (match i with
  | 0 => true
  | j + 1 => match es[j]? with
   | none => true
   | some p => decide (p.id < e.id)) && decide (Bj es e.tx = i)
def Az (es : List Ent) : Bool := decide (es.length ≤ 64) && (List.range es.length).all (okAt es)
def freeFrom : List Ent → Nat → Nat
 | [], k => k
 | e :: es, k => if e.id = (k : Int) then freeFrom es (k + 1) else k
def Bh (es : List Ent) : Nat := freeFrom es 0
def GF (es : List Ent) (k : Nat) (d : Int) : List Ent := match es[k]? with
 | none => es
 | some e => es.set k ⟨e.id, e.tx, e.n + d⟩
def putS (es : List Ent) (s : ByteArray) : List Ent × Int × Int :=
 if (Az es && DX s) = false then ([], 0, 1500) else
 match es[Bj es s]? with
 | some e => if e.n = 8 then ([], 0, 1501) else (GF es (Bj es s) 1, e.id, 0)
 | none => if es.length = 64 then ([], 0, 1501) else (es.take (Bh es) ++ ⟨(Bh es : Nat), s, 1⟩ :: es.drop (Bh es), (Bh es : Nat), 0)
def DD (es : List Ent) (id : Int) : Nat := es.findIdx fun e => decide (e.id = id)
def DP (es : List Ent) (id : Int) : List Ent × Int :=
 if Az es = false then ([], 1500) else
 match es[DD es id]? with
 | none => ([], 1502)
 | some e => if e.n = 0 then ([], 1502) else (GF es (DD es id) (-1), 0)
def Cl (es : List Ent) (id : Int) : ByteArray × Bool :=
 if Az es = false then (⟨#[]⟩, false) else
 match es[DD es id]? with
 | none => (⟨#[]⟩, false)
 | some e => (e.tx, true)
def EE (es : List Ent) : List Ent × Int := if Az es = false then ([], 1500) else (es.filter fun e => decide (e.n ≠ 0), 0)
theorem Je {es : List Ent} {s : ByteArray} {e : Ent} (h : es[Bj es s]? = some e) : e.tx = s := by
 obtain ⟨hlt, rfl⟩ := List.getElem?_eq_some_iff.1 h
 have := List.findIdx_getElem (xs := es) (p := fun e : Ent => EF e.tx s) (w := hlt)
 exact Ft.1 this
theorem Jf {es : List Ent} {s : ByteArray} {k : Nat} {e : Ent} (hk : k < Bj es s) (h : es[k]? = some e) : EF e.tx s = false := by
 obtain ⟨hlt, rfl⟩ := List.getElem?_eq_some_iff.1 h
 have := List.not_of_lt_findIdx (xs := es) (p := fun e : Ent => EF e.tx s) hk
 simpa using this
theorem MC {es : List Ent} {s : ByteArray} {k : Nat} {e : Ent} (h : es[k]? = some e) (ht : e.tx = s) (hl : ∀ (j : Nat) (x : Ent), j < k → es[j]? = some x → EF x.tx s = false) : Bj es s = k := by
 rcases Nat.lt_trichotomy (Bj es s) k with hlt | heq | hgt
 ·have hlen := (List.getElem?_eq_some_iff.1 h).1
  have hx : es[Bj es s]? = some (es[Bj es s]'(by omega)) := by simp
  have := hl _ _ hlt hx
  rw [Je hx, FZ] at this
  cases this
 ·exact heq
 ·have := Jf hgt h
  rw [ht, FZ] at this
  cases this
structure Bx (es : List Ent) : Prop where
 len : es.length ≤ 64
 ok : ∀ e ∈ es, Gf e = true
 up : ∀ (i j : Nat) x y, i < j → es[i]? = some x → es[j]? = some y → x.id < y.id
 one : ∀ (i j : Nat) x y, es[i]? = some x → es[j]? = some y → x.tx = y.tx → i = j
theorem Cd {es : List Ent} (h : Az es = true) : Bx es := by
 unfold Az at h
 simp only [Bool.and_eq_true, decide_eq_true_eq, List.all_eq_true, List.mem_range] at h
 obtain ⟨hl, ha⟩ := h
 have at_ : ∀ (i : Nat) x, es[i]? = some x → Gf x = true ∧ (∀ p, i ≠ 0 → es[i - 1]? = some p → p.id < x.id) ∧ Bj es x.tx = i := fun i x hx => by
  have := ha i (List.getElem?_eq_some_iff.1 hx).1
  unfold okAt at this
  rw [hx] at this
  simp only [Bool.and_eq_true, decide_eq_true_eq] at this
  refine ⟨this.1.1, fun p hp hpx => ?_, this.2⟩
  obtain ⟨j, rfl⟩ : ∃ j, i = j + 1 := ⟨i - 1, by omega⟩
  have h2 := this.1.2
  rw [Nat.add_sub_cancel] at hpx
  simp only [hpx, decide_eq_true_eq] at h2
  exact h2
 refine ⟨hl, fun e he => ?_, fun i j x y hij hx hy => ?_, fun i j x y hx hy he => ?_⟩
 ·obtain ⟨i, hi⟩ := List.mem_iff_getElem?.1 he
  exact (at_ i e hi).1
 ·obtain ⟨d, rfl⟩ : ∃ d, j = i + 1 + d := ⟨j - i - 1, by omega⟩
  clear hij
  induction d generalizing y with
  | zero => exact (at_ _ _ hy).2.1 x (by omega) (by rw [Nat.add_zero, Nat.add_sub_cancel]; exact hx)
  | succ d ih =>
   have hlt := (List.getElem?_eq_some_iff.1 hy).1
   have hp : es[i + 1 + d]? = some (es[i + 1 + d]'(by omega)) := by simp
   have h1 := ih _ hp
   have h2 := (at_ _ _ hy).2.1 _ (by omega) (by rw [show i + 1 + (d + 1) - 1 = i + 1 + d by omega]; exact hp)
   omega
 ·rw [← (at_ i x hx).2.2, ← (at_ j y hy).2.2, he]
theorem EV {es : List Ent} (h : Bx es) : Az es = true := by
 unfold Az
 simp only [Bool.and_eq_true, decide_eq_true_eq, List.all_eq_true, List.mem_range]
 refine ⟨h.len, fun i hi => ?_⟩
 unfold okAt
 have hx : es[i]? = some (es[i]) := by simp [hi]
 rw [hx]
 simp only [Bool.and_eq_true, decide_eq_true_eq]
 refine ⟨⟨h.ok _ (List.getElem_mem hi), ?_⟩, ?_⟩
 ·cases i with
  | zero => rfl
  | succ j =>
   have hp : es[j]? = some (es[j]'(by omega)) := by simp
   simp only [hp, decide_eq_true_eq]
   exact h.up j (j + 1) _ _ (by omega) hp hx
 ·exact MC hx rfl fun j x hj hjx => by
   cases ht : EF x.tx es[i].tx with
   | false => rfl
   | true =>
    have := h.one j i _ _ hjx hx (Ft.1 ht)
    omega
theorem Qn (H : Heap) (x : Int) : Call Tryz.prog 164 [.int .i64 x] H (.bool (CA x)) H := by
 refine AJ fit mixed Tryz.func164 rfl rfl rfl (by kernel_rfl) rfl ?_
 repeat' (first | (refine Bs ?_; refine CH ?_) | (refine Bz ?_; refine CZ ?_) | (refine CG ?_; first | refine BO ?_ | refine At ?_) | (refine CF ?_; first | refine BS ?_ | refine Aw ?_) | refine AO ?_ | refine AK ?_ | refine Ae (by decide +kernel) ?_ | refine AW ?_ | refine BN ?_ | refine BM ?_ | refine Ah ?_ | refine As ?_ | refine Ag ?_ | refine AR ?_ | refine Ar ?_ | refine Ad ?_ | refine AS ?_ | refine Aq ?_ | refine Ac ?_ | refine AV rfl ?_ | first | refine Br (fun hb => ?_) (fun hb => ?_) | refine Bp (fun hb => ?_) (fun hb => ?_))
 all_goals refine Ai ?_; simp [AD, AB, *]
 all_goals simp_all [within]
 all_goals (first | done | omega)
theorem Rz (x a b : Int) (h : a ≤ b) : (if (if x > a then x else a) < b then (if x > a then x else a) else b) = clip x a b := by
 unfold clip; split <;> split <;> (try split) <;> omega
theorem Vd (H : Heap) (x : Int) : Call Tryz.prog 222 [.int .i64 x] H (.int .i64 (cut x)) H := by
 refine AJ fit mixed Tryz.func222 rfl rfl rfl (by kernel_rfl) rfl ?_
 refine goW ?_
 refine AL (by simp only [resRf, resRs, resR]; first | done | rfl) ⟨?_, by first | exact List.prefix_refl _ | exact List.prefix_append _ _ | assumption | (refine List.IsPrefix.trans (by assumption) (List.prefix_append _ _)) | (simp only [List.append_assoc, List.cons_append, List.nil_append, List.set_cons_zero, List.set_cons_succ]; exact ⟨_, by simp only [List.append_assoc, List.cons_append, List.nil_append]; rfl⟩)⟩
 simp only [AD, AB]
 simp only [Nat.reduceEqDiff, reduceIte, Option.some.injEq, reduceCtorEq]
 rw [Rz x _ _ (by decide)]
 rfl
theorem Dh (H : Heap) (a b : Int) : Call Tryz.prog 194 [.int .i64 a, .int .i64 b] H (.int .i64 (times a b)) H := by
 refine AJ fit mixed Tryz.func194 rfl rfl rfl (by kernel_rfl) rfl ?_
 refine goW ?_
 refine AA (Vd _ _) ?_
 refine goW ?_
 refine AL (by simp only [resRf, resRs, resR]; first | done | rfl) ⟨?_, by first | exact List.prefix_refl _ | exact List.prefix_append _ _ | assumption | (refine List.IsPrefix.trans (by assumption) (List.prefix_append _ _)) | (simp only [List.append_assoc, List.cons_append, List.nil_append, List.set_cons_zero, List.set_cons_succ]; exact ⟨_, by simp only [List.append_assoc, List.cons_append, List.nil_append]; rfl⟩)⟩
 simp [AD, AB, times]
 rfl
theorem HI (H : Heap) (a b : Int) : Call Tryz.prog 191 [.int .i64 a, .int .i64 b] H (.int .i64 (plus a b)) H := by
 refine AJ fit mixed Tryz.func191 rfl rfl rfl (by kernel_rfl) rfl ?_
 refine goW ?_
 refine AA (Vd _ _) ?_
 refine goW ?_
 refine AL (by simp only [resRf, resRs, resR]; first | done | rfl) ⟨?_, by first | exact List.prefix_refl _ | exact List.prefix_append _ _ | assumption | (refine List.IsPrefix.trans (by assumption) (List.prefix_append _ _)) | (simp only [List.append_assoc, List.cons_append, List.nil_append, List.set_cons_zero, List.set_cons_succ]; exact ⟨_, by simp only [List.append_assoc, List.cons_append, List.nil_append]; rfl⟩)⟩
 simp [AD, AB, plus]
theorem Xy (H : Heap) (x : Int) : Call Tryz.prog 223 [.int .i64 x] H (.int .i64 (PQ x)) H := by
 refine AJ fit mixed Tryz.func223 rfl rfl rfl (by kernel_rfl) rfl ?_
 refine goW ?_
 refine AL (by simp only [resRf, resRs, resR]; first | done | rfl) ⟨?_, by first | exact List.prefix_refl _ | exact List.prefix_append _ _ | assumption | (refine List.IsPrefix.trans (by assumption) (List.prefix_append _ _)) | (simp only [List.append_assoc, List.cons_append, List.nil_append, List.set_cons_zero, List.set_cons_succ]; exact ⟨_, by simp only [List.append_assoc, List.cons_append, List.nil_append]; rfl⟩)⟩
 simp only [AD, AB]
 simp only [Nat.reduceEqDiff, reduceIte, Option.some.injEq, reduceCtorEq]
 rw [Rz x _ _ (by decide)]
 rfl
theorem Xz (H : Heap) (x : Int) : Call Tryz.prog 195 [.int .i64 x] H (.int .i64 (RV x)) H := by
 refine AJ fit mixed Tryz.func195 rfl rfl rfl (by kernel_rfl) rfl ?_
 repeat' (first | (refine Bs ?_; refine CH ?_) | (refine Bz ?_; refine CZ ?_) | (refine CG ?_; first | refine BO ?_ | refine At ?_) | (refine CF ?_; first | refine BS ?_ | refine Aw ?_) | refine AO ?_ | refine AK ?_ | refine Ae (by decide +kernel) ?_ | refine AW ?_ | refine BN ?_ | refine BM ?_ | refine Ah ?_ | refine As ?_ | refine Ag ?_ | refine AR ?_ | refine Ar ?_ | refine Ad ?_ | refine AS ?_ | refine Aq ?_ | refine Ac ?_ | refine AV rfl ?_ | first | refine Br (fun hb => ?_) (fun hb => ?_) | refine Bp (fun hb => ?_) (fun hb => ?_))
 all_goals refine AE (fun hb => ?_) (fun hb => ?_)
 all_goals (repeat (first | (refine Bs ?_; refine CH ?_) | (refine Bz ?_; refine CZ ?_) | (refine CG ?_; first | refine BO ?_ | refine At ?_) | (refine CF ?_; first | refine BS ?_ | refine Aw ?_) | refine AO ?_ | refine AK ?_ | refine Ae (by decide +kernel) ?_ | refine AW ?_ | refine BN ?_ | refine BM ?_ | refine Ah ?_ | refine As ?_ | refine Ag ?_ | refine AR ?_ | refine Ar ?_ | refine Ad ?_ | refine AS ?_ | refine Aq ?_ | refine Ac ?_ | refine AV rfl ?_))
 all_goals refine Ai ?_; simp [AD, AB, *]
 all_goals simp_all [RV]
 all_goals (first | done | omega)
theorem MY (H : Heap) (i h : Int) : Call Tryz.prog 165 [.agg [.int .i64 i, .int .i64 h]] H (.bool (BL i h)) H := by
 refine AJ fit mixed Tryz.func165 rfl rfl rfl (by kernel_rfl) rfl ?_
 repeat' (first | (refine Bs ?_; refine CH ?_) | (refine Bz ?_; refine CZ ?_) | (refine CG ?_; first | refine BO ?_ | refine At ?_) | (refine CF ?_; first | refine BS ?_ | refine Aw ?_) | refine AO ?_ | refine AK ?_ | refine Ae (by decide +kernel) ?_ | refine AW ?_ | refine BN ?_ | refine BM ?_ | refine Ah ?_ | refine As ?_ | refine Ag ?_ | refine AR ?_ | refine Ar ?_ | refine Ad ?_ | refine AS ?_ | refine Aq ?_ | refine Ac ?_ | refine AV rfl ?_ | first | refine Br (fun hb => ?_) (fun hb => ?_) | refine Bp (fun hb => ?_) (fun hb => ?_))
 all_goals refine Ai ?_; simp [AD, AB, *]
 all_goals simp_all [BL, within]
 all_goals (first | done | omega)
theorem On (H : Heap) (i h : Nat) (hi : i ≤ 3) (hh : h ≤ 3) : Call Tryz.prog 208 [.agg [.int .i64 i, .int .i64 h]] H (.int .i64 (BA i h : Nat)) H := by
 refine AJ fit mixed Tryz.func208 rfl rfl rfl (by kernel_rfl) rfl ?_
 have hm : h * (i + 1) ≤ 12 := Nat.le_trans (Nat.mul_le_mul hh (Nat.add_le_add_right hi 1)) (by decide)
 have w1 : IntKind.i64.wrap ((i : Int) + 1) = ((i + 1 : Nat) : Int) := AG (by omega)
 have w2 : IntKind.i64.wrap ((h : Int) * ((i + 1 : Nat) : Int)) = ((h * (i + 1) : Nat) : Int) := by rw [← Int.natCast_mul]; exact Am (by omega)
 have w3 : IntKind.i64.wrap (((h * (i + 1) : Nat) : Int) + (h : Int)) = ((h * (i + 1) + h : Nat) : Int) := by rw [← Int.natCast_add]; exact Am (by omega)
 have w4 : IntKind.i64.wrap (((h * (i + 1) + h : Nat) : Int) + 1) = ((h * (i + 1) + h + 1 : Nat) : Int) := AG (by omega)
 clear hm hi hh
 refine goW ?_
 refine AL (by simp only [resRf, resRs, resR]; first | done | rfl) ⟨?_, by first | exact List.prefix_refl _ | exact List.prefix_append _ _ | assumption | (refine List.IsPrefix.trans (by assumption) (List.prefix_append _ _)) | (simp only [List.append_assoc, List.cons_append, List.nil_append, List.set_cons_zero, List.set_cons_succ]; exact ⟨_, by simp only [List.append_assoc, List.cons_append, List.nil_append]; rfl⟩)⟩
 simp only [AD, AB]
 rfl
-- the document's
theorem DM (H : Heap) (x a b : Int) : Call Tryz.prog 128 [.int .i64 x, .int .i64 a, .int .i64 b] H (.bool (within x a b)) H := by
 refine AJ fit mixed Tryz.func128 rfl rfl rfl (by kernel_rfl) rfl ?_
 repeat' (first | (refine Bs ?_; refine CH ?_) | (refine Bz ?_; refine CZ ?_) | (refine CG ?_; first | refine BO ?_ | refine At ?_) | (refine CF ?_; first | refine BS ?_ | refine Aw ?_) | refine AO ?_ | refine AK ?_ | refine Ae (by decide +kernel) ?_ | refine AW ?_ | refine BN ?_ | refine BM ?_ | refine Ah ?_ | refine As ?_ | refine Ag ?_ | refine AR ?_ | refine Ar ?_ | refine Ad ?_ | refine AS ?_ | refine Aq ?_ | refine Ac ?_ | refine AV rfl ?_ | first | refine Br (fun hb => ?_) (fun hb => ?_) | refine Bp (fun hb => ?_) (fun hb => ?_))
 all_goals refine Ai ?_; simp [AD, AB, *]
 all_goals simp_all [within]
 all_goals (first | done | omega)
theorem Il (H : Heap) (x : Int) : Call Tryz.prog 186 [.int .i64 x] H (.bool (CA x)) H := by
 refine AJ fit mixed Tryz.func186 rfl rfl rfl (by kernel_rfl) rfl ?_
 refine goW ?_
 refine AA (DM _ _ _ _) ?_
 refine goW ?_
 refine Ai ?_; simp [AD, AB, *]
theorem GL (H : Heap) (i h : Int) : Call Tryz.prog 137 [.agg [.int .i64 i, .int .i64 h]] H (.bool (BL i h)) H := by
 refine AJ fit mixed Tryz.func137 rfl rfl rfl (by kernel_rfl) rfl ?_
 refine goW ?_
 refine AA (DM ..) ?_
 refine goW ?_
 first | refine Br (fun hb => ?_) (fun hb => ?_) | refine Bp (fun hb => ?_) (fun hb => ?_)
 ·refine goW ?_
  refine AA (DM ..) ?_
  refine goW ?_
  refine Ai ?_; simp [AD, AB, *]
  simp_all [BL]
 ·refine goW ?_
  refine Ai ?_; simp [AD, AB, *]
  simp_all [BL]
theorem Ph {α : Type} (p : α → Bool) (xs : List α) : ∃ k, k ≤ xs.length ∧ (∀ (j : Nat) x, j < k → xs[j]? = some x → p x = true) ∧ ((k = xs.length ∧ xs.all p = true) ∨ (xs.all p = false ∧ ∃ x, xs[k]? = some x ∧ p x = false)) := by
 induction xs with
 | nil => exact ⟨0, by simp, by simp, .inl ⟨rfl, rfl⟩⟩
 | cons a xs ih =>
  cases ha : p a with
  | false => exact ⟨0, by simp, by simp, .inr ⟨by simp [ha], a, by simp, ha⟩⟩
  | true =>
   obtain ⟨k, h1, h2, h3⟩ := ih
   refine ⟨k + 1, by simpa using h1, fun j x hj hx => ?_, ?_⟩
   ·cases j with
    | zero => simp at hx; subst hx; exact ha
    | succ j => exact h2 j x (by omega) (by simpa using hx)
   ·rcases h3 with ⟨h3, h4⟩ | ⟨h3, x, h4, h5⟩
    ·exact .inl ⟨by simp [h3], by simpa [ha] using h4⟩
    ·exact .inr ⟨by simpa [ha] using h3, x, by simpa using h4, h5⟩
theorem cP (H : Heap) (x : Int) : Call Tryz.prog 234 [.int .i64 x] H (.bool (!CA x)) H := by
 refine AJ fit mixed Tryz.func234 rfl rfl rfl (by kernel_rfl) rfl ?_
 refine goW ?_
 refine AA (Qn _ _) ?_
 refine goW ?_
 refine Ai ?_; simp [AD, AB, *]
theorem Wo (H : Heap) (v : V) (xs : List Int) (hx : Sl 1 AH H v xs) (hl : xs.length ≤ 2 ^ 47) : ∃ r : Int, decide (r ≥ 0) = !(xs.all fun x => CA x) ∧ Call Tryz.prog 239 [v, .fn 234 []] H (.int .i64 r) H := by
 obtain ⟨k0, hk0, hgood, hend⟩ := Ph (fun x => CA x) xs
 obtain ⟨r, hr⟩ : ∃ r : Int, r = if k0 = xs.length then -1 else (k0 : Int) := ⟨_, rfl⟩
 refine ⟨r, ?_, ?_⟩
 ·rcases hend with ⟨h1, h2⟩ | ⟨h2, x, h3, _⟩
  ·rw [hr, if_pos h1, h2]; rfl
  ·have : k0 < xs.length := (List.getElem?_eq_some_iff.1 h3).1
   rw [hr, if_neg (by omega), h2]
   simp
 refine AJ fit mixed Tryz.func239 rfl rfl rfl (by kernel_rfl) rfl ?_
 have hlen := hx.len T27 rfl
 refine goW ?_
 refine AT (fun c ρ h => ∃ k, k ≤ k0 ∧ c = xs.length - k ∧ h = H ∧ ρ 0 = v ∧ ρ 1 = .fn 234 [] ∧ ρ 7 = .int .i64 xs.length ∧ ρ 8 = .int .i64 (k : Nat)) ⟨0, Nat.zero_le _, rfl, rfl, rfl, rfl, rfl, rfl⟩ ?_
 rintro _ ρ h ⟨k, hk, rfl, rfl, h0, h1, h7, h8⟩
 refine goW ?_
 refine AE (fun hb => ?_) (fun hb => ?_)
 ·have hk' : k < xs.length := by simpa using hb
  clear hb
  obtain ⟨x, hxk⟩ : ∃ x, xs[k]? = some x := ⟨xs[k], by simp [hk']⟩
  obtain ⟨b, o, cs, hi, rfl, _, hlo, _⟩ := hx.get T27 rfl T3 rfl hxk
  have ho := AF T3 rfl hlo
  have hw := AG (n := k) (by omega)
  have hodd := cP h x
  by_cases hkk : k < k0
  ·have hg : CA x = true := hgood k x hkk hxk
   rw [hg] at hodd
   clear hend hg
   refine goW ?_
   refine AA hodd ?_
   refine goW ?_
   refine AE (fun hb => ?_) (fun hb => ?_)
   ·cases hb
   ·refine goW ?_
    refine ⟨xs.length - (k + 1), by omega, k + 1, hkk, rfl, rfl, ?_⟩
    simp [AD, AB, *]
  ·have hkk' : k = k0 := by omega
   rcases hend with ⟨h2, _⟩ | ⟨_, y, h3, h4⟩
   ·omega
   ·rw [← hkk', hxk] at h3
    obtain rfl := Option.some.inj h3
    have hg : CA x = false := h4
    rw [hg] at hodd
    rw [if_neg (by omega), ← hkk'] at hr
    subst hr
    clear hgood h3 h4 hg hkk hkk' hk hk0
    refine goW ?_
    refine AA hodd ?_
    refine goW ?_
    refine AE (fun hb => ?_) (fun hb => ?_)
    ·refine goW ?_
     refine AL (by simp only [resRf, resRs, resR]; first | done | rfl) ⟨?_, by first | exact List.prefix_refl _ | exact List.prefix_append _ _ | assumption | (refine List.IsPrefix.trans (by assumption) (List.prefix_append _ _)) | (simp only [List.append_assoc, List.cons_append, List.nil_append, List.set_cons_zero, List.set_cons_succ]; exact ⟨_, by simp only [List.append_assoc, List.cons_append, List.nil_append]; rfl⟩)⟩
     simp [AD, AB]
    ·cases hb
 ·have hk' : k = xs.length := by have : ¬ k < xs.length := by simpa using hb
                                 omega
  rw [if_pos (by omega)] at hr
  clear hb hgood hend
  refine goW ?_
  refine AL (by simp only [resRf, resRs, resR]; first | done | rfl) ⟨?_, by first | exact List.prefix_refl _ | exact List.prefix_append _ _ | assumption | (refine List.IsPrefix.trans (by assumption) (List.prefix_append _ _)) | (simp only [List.append_assoc, List.cons_append, List.nil_append, List.set_cons_zero, List.set_cons_succ]; exact ⟨_, by simp only [List.append_assoc, List.cons_append, List.nil_append]; rfl⟩)⟩
  rw [hr]
  simp [AD, AB]
theorem NX (H : Heap) (v : V) (xs : List Int) (hx : Sl 1 AH H v xs) (hl : xs.length ≤ 2 ^ 47) : Call Tryz.prog 213 [v] H (.bool (BF xs)) H := by
 refine AJ fit mixed Tryz.func213 rfl rfl rfl (by kernel_rfl) rfl ?_
 have hlen := hx.len T27 rfl
 obtain ⟨r, hr, hidx⟩ := Wo H v xs hx hl
 have hcon : Call Tryz.prog 235 [v, .fn 234 []] H (.bool (!(xs.all fun x => CA x))) H := by
  refine AJ fit mixed Tryz.func235 rfl rfl rfl (by kernel_rfl) rfl ?_
  refine goW ?_
  refine AA hidx ?_
  refine goW ?_
  refine Ai ?_; simp [AD, AB, *]
 clear hr hidx
 refine goW ?_
 first | refine Br (fun hb => ?_) (fun hb => ?_) | refine Bp (fun hb => ?_) (fun hb => ?_)
 ·refine goW ?_
  refine AA hcon ?_
  refine goW ?_
  refine AL (by simp only [resRf, resRs, resR]; first | done | rfl) ⟨?_, by first | exact List.prefix_refl _ | exact List.prefix_append _ _ | assumption | (refine List.IsPrefix.trans (by assumption) (List.prefix_append _ _)) | (simp only [List.append_assoc, List.cons_append, List.nil_append, List.set_cons_zero, List.set_cons_succ]; exact ⟨_, by simp only [List.append_assoc, List.cons_append, List.nil_append]; rfl⟩)⟩
  have hb' : xs.length ≤ 16 := by have := of_decide_eq_true hb; omega
  simp [AD, AB, BF, hb']
 ·refine goW ?_
  refine AL (by simp only [resRf, resRs, resR]; first | done | rfl) ⟨?_, by first | exact List.prefix_refl _ | exact List.prefix_append _ _ | assumption | (refine List.IsPrefix.trans (by assumption) (List.prefix_append _ _)) | (simp only [List.append_assoc, List.cons_append, List.nil_append, List.set_cons_zero, List.set_cons_succ]; exact ⟨_, by simp only [List.append_assoc, List.cons_append, List.nil_append]; rfl⟩)⟩
  have hb' : ¬ xs.length ≤ 16 := by have := of_decide_eq_false hb; omega
  simp [AD, AB, BF, hb']
theorem Ia : ∀ {xs ys : List Int} {s : Int} {k : Nat} {x y : Int}, xs[k]? = some x → ys[k]? = some y → dotFrom s (xs.take (k + 1)) (ys.take (k + 1)) = plus (dotFrom s (xs.take k) (ys.take k)) (times x y)
 | [], _, _, _, _, _, h, _ => by simp at h
 | _ :: _, [], _, _, _, _, _, h => by simp at h
 | a :: xs, b :: ys, s, 0, x, y, h, g => by
  simp at h g
  subst h; subst g
  simp [dotFrom]
 | a :: xs, b :: ys, s, k + 1, x, y, h, g => by
  simp only [List.take_succ_cons, dotFrom]
  exact Ia (by simpa using h) (by simpa using g)
theorem LA : ∀ {xs ys : List Int} {s : Int}, dotFrom s xs (ys.take xs.length) = dotFrom s xs ys
 | [], _, _ => by simp [dotFrom]
 | _ :: _, [], _ => by simp [dotFrom]
 | a :: xs, b :: ys, s => by
  simp only [List.length_cons, List.take_succ_cons, dotFrom]
  exact LA
theorem WQ (H : Heap) (u v : V) (xs ys : List Int) (hx : Sl 1 AH H u xs) (hy : Sl 1 AH H v ys) (hl : xs.length ≤ ys.length) (hl2 : xs.length ≤ 2 ^ 47) : Call Tryz.prog 221 [u, v] H (.int .i64 (dot xs ys)) H := by
 refine AJ fit mixed Tryz.func221 rfl rfl rfl (by kernel_rfl) rfl ?_
 have hlen := hx.len T27 rfl
 refine goW ?_
 refine AT (fun c ρ h => ∃ k, k ≤ xs.length ∧ c = xs.length - k ∧ h = H ∧ ρ 1 = v ∧ ρ 8 = u ∧ ρ 9 = .int .i64 xs.length ∧ ρ 10 = .int .i64 (k : Nat) ∧ ρ 5 = .int .i64 (dot (xs.take k) (ys.take k))) ⟨0, Nat.zero_le _, rfl, rfl, rfl, rfl, rfl, rfl, rfl⟩ ?_
 rintro _ ρ h ⟨k, hk, rfl, rfl, h1, h8, h9, h10, h5⟩
 refine goW ?_
 refine AE (fun hb => ?_) (fun hb => ?_)
 ·have hk' : k < xs.length := by simpa using hb
  clear hb
  obtain ⟨x, hxk⟩ : ∃ x, xs[k]? = some x := ⟨xs[k], by simp [hk']⟩
  obtain ⟨y, hyk⟩ : ∃ x, ys[k]? = some x := ⟨ys[k]'(by omega), by simp⟩
  obtain ⟨b, o, cs, hi, rfl, _, hlo, _⟩ := hx.get T27 rfl T3 rfl hxk
  obtain ⟨b2, o2, cs, hi2, rfl, _, hlo2, _⟩ := hy.get T27 rfl T3 rfl hyk
  have ho := AF T3 rfl hlo
  have ho2 := AF T3 rfl hlo2
  have hw := AG (n := k) (by omega)
  have hs : dot (xs.take (k + 1)) (ys.take (k + 1)) = _ := Ia hxk hyk
  have c1 := Dh h x y
  have c2 := HI h (dot (xs.take k) (ys.take k)) (times x y)
  rw [← hs] at c2
  clear hs
  refine goW ?_
  refine AA c1 ?_
  refine goW ?_
  refine AA c2 ?_
  refine goW ?_
  refine ⟨xs.length - (k + 1), by omega, k + 1, hk', rfl, rfl, ?_⟩
  simp [AD, AB, *]
 ·have hk' : k = xs.length := by have : ¬ k < xs.length := by simpa using hb
                                 omega
  subst hk'
  rw [List.take_of_length_le (Nat.le_refl _), dot, LA] at h5
  clear hb
  refine goW ?_
  refine Ai ?_; simp [AD, AB, *]
-- the document's
theorem DC (H : Heap) (v : V) (xs : List Int) (hx : Sl 1 AH H v xs) (hl : xs.length ≤ 2 ^ 47) : Call Tryz.prog 138 [v] H (.bool (BF xs)) H := by
 refine AJ fit mixed Tryz.func138 rfl rfl rfl (by kernel_rfl) rfl ?_
 have hlen := hx.len T27 rfl
 refine goW ?_
 refine AT (fun c ρ h => ∃ k, k ≤ xs.length ∧ c = xs.length - k ∧ h = H ∧ (∀ (j : Nat) x, j < k → xs[j]? = some x → CA x = true) ∧ ρ 0 = v ∧ ρ 3 = .int .i64 (k : Nat)) ⟨0, Nat.zero_le _, rfl, rfl, by intro j x hj; omega, rfl, rfl⟩ ?_
 rintro _ ρ h ⟨k, hk, rfl, rfl, hall, h0, h3⟩
 refine goW ?_
 refine AE (fun hb => ?_) (fun hb => ?_)
 ·have hk' : k < xs.length := by simpa using hb
  clear hb
  obtain ⟨x, hxk⟩ : ∃ x, xs[k]? = some x := ⟨xs[k], by simp [hk']⟩
  obtain ⟨b, o, cs, hi, rfl, _, hlo, _⟩ := hx.get T27 rfl T3 rfl hxk
  have ho := AF T3 rfl hlo
  have hw := AG (n := k) (by omega)
  have c1 := Il h x
  obtain ⟨r, hr⟩ : ∃ r, CA x = r := ⟨_, rfl⟩
  rw [hr] at c1
  cases r
  ·clear hall
   refine goW ?_
   refine AA c1 ?_
   refine goW ?_
   refine AE (fun hb => ?_) (fun hb => ?_)
   ·refine goW ?_
    refine AL (by simp only [resRf, resRs, resR]; first | done | rfl) ⟨?_, by first | exact List.prefix_refl _ | exact List.prefix_append _ _ | assumption | (refine List.IsPrefix.trans (by assumption) (List.prefix_append _ _)) | (simp only [List.append_assoc, List.cons_append, List.nil_append, List.set_cons_zero, List.set_cons_succ]; exact ⟨_, by simp only [List.append_assoc, List.cons_append, List.nil_append]; rfl⟩)⟩
    have : BF xs = false := by
     unfold BF
     rw [Bool.and_eq_false_iff]
     right
     rw [List.all_eq_false]
     exact ⟨x, List.mem_iff_getElem?.2 ⟨k, hxk⟩, by simp [hr]⟩
    rw [this]
    simp [AD, AB]
   ·cases hb
  ·have hall' := hall
   clear hall
   refine goW ?_
   refine AA c1 ?_
   refine goW ?_
   refine AE (fun hb => ?_) (fun hb => ?_)
   ·cases hb
   ·refine goW ?_
    refine ⟨xs.length - (k + 1), by omega, k + 1, hk', rfl, rfl, fun j y hj hy => ?_, ?_⟩
    ·by_cases hjk : j = k
     ·subst hjk; rw [hxk] at hy; cases hy; exact hr
     ·exact hall' j y (by omega) hy
    ·simp [AD, AB, *]
 ·have hk' : k = xs.length := by have : ¬ k < xs.length := by simpa using hb
                                 omega
  subst hk'
  have ha : xs.all (fun x => CA x) = true := List.all_eq_true.2 fun x hx => by
   obtain ⟨j, hj⟩ := List.mem_iff_getElem?.1 hx
   exact hall j x (List.getElem?_eq_some_iff.1 hj).1 hj
  clear hall hb
  refine goW ?_
  refine AL (by simp only [resRf, resRs, resR]; first | done | rfl) ⟨?_, by first | exact List.prefix_refl _ | exact List.prefix_append _ _ | assumption | (refine List.IsPrefix.trans (by assumption) (List.prefix_append _ _)) | (simp only [List.append_assoc, List.cons_append, List.nil_append, List.set_cons_zero, List.set_cons_succ]; exact ⟨_, by simp only [List.append_assoc, List.cons_append, List.nil_append]; rfl⟩)⟩
  have hc : decide ((xs.length : Int) ≤ 16) = decide (xs.length ≤ 16) := by apply Bool.eq_iff_iff.2; simp; omega
  simp only [AD, AB, BF, ha, Bool.and_true, ← hc]
  rfl
theorem MZ {i h : Int} (hs : BL i h = true) : ∃ i' h' : Nat, i = i' ∧ h = h' ∧ 1 ≤ i' ∧ i' ≤ 3 ∧ 1 ≤ h' ∧ h' ≤ 3 := by
 simp [BL, within] at hs
 exact ⟨i.toNat, h.toNat, by omega, by omega, by omega, by omega, by omega, by omega⟩
theorem GW (i h : Nat) : ((BA i h : Nat) : Int) = (h : Int) * ((i : Int) + 1) + h + 1 := by unfold BA; push_cast; rfl
theorem Rt (a b : Nat) : ((a : Int) == (b : Int)) = decide ((a : Int) = (b : Int)) := by
 apply Bool.eq_iff_iff.2; simp
theorem Gu (H : Heap) (i h : Int) (w : V) (ws : List Int) (hw : Sl 1 AH H w ws) (hl : ws.length ≤ 2 ^ 47) : Call Tryz.prog 169 [.agg [.int .i64 i, .int .i64 h], w] H (.bool (fits i h ws)) H := by
 refine AJ fit mixed Tryz.func169 rfl rfl rfl (by kernel_rfl) rfl ?_
 have hlen := hw.len T27 rfl
 have hw' := hw.mono (List.prefix_append H [.row [.int .i64 i, .int .i64 h] true])
 have c1 := MY (H ++ [.row [.int .i64 i, .int .i64 h] true]) i h
 have c3 := NX (H ++ [.row [.int .i64 i, .int .i64 h] true]) w ws hw' hl
 cases hs : BL i h
 ·rw [hs] at c1
  have hfin : fits i h ws = false := by simp [fits, hs]
  refine goW ?_
  refine AA c1 ?_
  refine goW ?_
  refine Ai ?_; simp [AD, AB, *]
 ·rw [hs] at c1
  obtain ⟨i, h, rfl, rfl, hi1, hi2, hh1, hh2⟩ := MZ hs
  have c2 := On (H ++ [.row [.int .i64 i, .int .i64 h] true]) i h hi2 hh2
  have hfin : fits i h ws = (BF ws && ((ws.length : Int) == ((BA i h : Nat) : Int))) := by rw [fits, hs, Bool.true_and, Rt, GW]
  clear hi1 hi2 hh1 hh2 hl hs
  refine goW ?_
  refine AA c1 ?_
  refine goW ?_
  refine AA c2 ?_
  refine goW ?_
  first | refine Br (fun hb => ?_) (fun hb => ?_) | refine Bp (fun hb => ?_) (fun hb => ?_)
  ·refine goW ?_
   refine AA c3 ?_
   refine goW ?_
   refine AL (by simp only [resRf, resRs, resR]; first | done | rfl) ⟨?_, by first | exact List.prefix_refl _ | exact List.prefix_append _ _ | assumption | (refine List.IsPrefix.trans (by assumption) (List.prefix_append _ _)) | (simp only [List.append_assoc, List.cons_append, List.nil_append, List.set_cons_zero, List.set_cons_succ]; exact ⟨_, by simp only [List.append_assoc, List.cons_append, List.nil_append]; rfl⟩)⟩
   simp [AD, AB, hfin, hb]
  ·refine goW ?_
   refine AL (by simp only [resRf, resRs, resR]; first | done | rfl) ⟨?_, by first | exact List.prefix_refl _ | exact List.prefix_append _ _ | assumption | (refine List.IsPrefix.trans (by assumption) (List.prefix_append _ _)) | (simp only [List.append_assoc, List.cons_append, List.nil_append, List.set_cons_zero, List.set_cons_succ]; exact ⟨_, by simp only [List.append_assoc, List.cons_append, List.nil_append]; rfl⟩)⟩
   simp [AD, AB, hfin, hb]
theorem Vg (H : Heap) (i h : Int) (x : V) (xs : List Int) (hx : Sl 1 AH H x xs) (hl : xs.length ≤ 2 ^ 47) : Call Tryz.prog 163 [.agg [.int .i64 i, .int .i64 h], x] H (.bool (Dz i xs)) H := by
 refine AJ fit mixed Tryz.func163 rfl rfl rfl (by kernel_rfl) rfl ?_
 have hlen := hx.len T27 rfl
 have c3 := NX (H ++ [.row [.int .i64 i, .int .i64 h] true]) x xs (hx.mono (List.prefix_append H [.row [.int .i64 i, .int .i64 h] true])) hl
 have hfin : Dz i xs = (((xs.length : Int) == i) && BF xs) := by rw [Dz]; rfl
 clear hl
 refine goW ?_
 first | refine Br (fun hb => ?_) (fun hb => ?_) | refine Bp (fun hb => ?_) (fun hb => ?_)
 ·refine goW ?_
  refine AA c3 ?_
  refine goW ?_
  refine AL (by simp only [resRf, resRs, resR]; first | done | rfl) ⟨?_, by first | exact List.prefix_refl _ | exact List.prefix_append _ _ | assumption | (refine List.IsPrefix.trans (by assumption) (List.prefix_append _ _)) | (simp only [List.append_assoc, List.cons_append, List.nil_append, List.set_cons_zero, List.set_cons_succ]; exact ⟨_, by simp only [List.append_assoc, List.cons_append, List.nil_append]; rfl⟩)⟩
  simp [AD, AB, hfin, hb]
 ·refine goW ?_
  refine AL (by simp only [resRf, resRs, resR]; first | done | rfl) ⟨?_, by first | exact List.prefix_refl _ | exact List.prefix_append _ _ | assumption | (refine List.IsPrefix.trans (by assumption) (List.prefix_append _ _)) | (simp only [List.append_assoc, List.cons_append, List.nil_append, List.set_cons_zero, List.set_cons_succ]; exact ⟨_, by simp only [List.append_assoc, List.cons_append, List.nil_append]; rfl⟩)⟩
  simp [AD, AB, hfin, hb]
theorem QF (H : Heap) (i h : Int) (x : V) (xs : List Int) (hx : Sl 1 AH H x xs) (hl : xs.length ≤ 2 ^ 47) : Call Tryz.prog 187 [.agg [.int .i64 i, .int .i64 h], x] H (.bool (Dz i xs)) H := by
 refine AJ fit mixed Tryz.func187 rfl rfl rfl (by kernel_rfl) rfl ?_
 have hlen := hx.len T27 rfl
 have c3 := DC (H ++ [.row [.int .i64 i, .int .i64 h] true]) x xs (hx.mono (List.prefix_append H [.row [.int .i64 i, .int .i64 h] true])) hl
 have hfin : Dz i xs = (((xs.length : Int) == i) && BF xs) := by rw [Dz]; rfl
 clear hl
 refine goW ?_
 first | refine Br (fun hb => ?_) (fun hb => ?_) | refine Bp (fun hb => ?_) (fun hb => ?_)
 ·refine goW ?_
  refine AA c3 ?_
  refine goW ?_
  refine AL (by simp only [resRf, resRs, resR]; first | done | rfl) ⟨?_, by first | exact List.prefix_refl _ | exact List.prefix_append _ _ | assumption | (refine List.IsPrefix.trans (by assumption) (List.prefix_append _ _)) | (simp only [List.append_assoc, List.cons_append, List.nil_append, List.set_cons_zero, List.set_cons_succ]; exact ⟨_, by simp only [List.append_assoc, List.cons_append, List.nil_append]; rfl⟩)⟩
  simp [AD, AB, hfin, hb]
 ·refine goW ?_
  refine AL (by simp only [resRf, resRs, resR]; first | done | rfl) ⟨?_, by first | exact List.prefix_refl _ | exact List.prefix_append _ _ | assumption | (refine List.IsPrefix.trans (by assumption) (List.prefix_append _ _)) | (simp only [List.append_assoc, List.cons_append, List.nil_append, List.set_cons_zero, List.set_cons_succ]; exact ⟨_, by simp only [List.append_assoc, List.cons_append, List.nil_append]; rfl⟩)⟩
  simp [AD, AB, hfin, hb]
structure Iq (H : Heap) (b : Nat) (i h : Int) (w : V) : Prop where
 a0 : H.loadN b 0 1 = some [.int .i64 i]
 a1 : H.loadN b 1 1 = some [.int .i64 h]
 a2 : H.loadN b 2 1 = some [w]
theorem Iq.mono {H H' : Heap} {b : Nat} {i h : Int} {w : V} (hp : H <+: H') (n : Iq H b i h w) : Iq H' b i h w := ⟨Bc hp n.a0, Bc hp n.a1, Bc hp n.a2⟩
theorem XC {H l : Heap} {i h : Int} {w : V} : Iq (H ++ (.row [.int .i64 i, .int .i64 h, w] true :: l)) H.length i h w := by
 refine ⟨?_, ?_, ?_⟩ <;> (rw [Ab]; rfl)
theorem iC (H : Heap) (i h : Int) (w x : V) (ws xs : List Int) (hw : Sl 1 AH H w ws) (hx : Sl 1 AH H x xs) (lw : ws.length ≤ 2 ^ 47) (lx : xs.length ≤ 2 ^ 47) :
  ∃ b H', Call Tryz.prog 189 [.agg [.int .i64 i, .int .i64 h], w, x] H (.tup [.ptr b 0, .bool (fits i h ws && Dz i xs)]) H' ∧ H <+: H' ∧ Iq H' b i h w := by
 suffices hh : ∃ u H', (∃ b, u = .tup [.ptr b 0, .bool (fits i h ws && Dz i xs)] ∧ H <+: H' ∧ Iq H' b i h w) ∧ Call Tryz.prog 189 [.agg [.int .i64 i, .int .i64 h], w, x] H u H' by
  obtain ⟨u, H', ⟨b, rfl, h1, h2⟩, h3⟩ := hh
  exact ⟨b, H', h3, h1, h2⟩
 refine CY fit mixed Tryz.func189 rfl rfl rfl (by kernel_rfl) ?_
 obtain ⟨H1, hH1⟩ : ∃ H1, H ++ [.row [.int .i64 i, .int .i64 h] true] ++ [.row [.int .i64 i, .int .i64 h, w] true] = H1 := ⟨_, rfl⟩
 have p1 : H <+: H1 := by rw [← hH1, List.append_assoc]; exact List.prefix_append _ _
 have nat : Iq H1 (H ++ [Blk.row [.int .i64 i, .int .i64 h] true]).length i h w := by rw [← hH1]; exact XC
 have hld : loadV T 23 H1 H.length 0 = some (.agg [.int .i64 i, .int .i64 h]) := by
  refine AZ T23 rfl ?_
  rw [← hH1, List.append_assoc, Ab]; rfl
 have c1 := Gu H1 i h w ws (hw.mono p1) lw
 have c2 := Vg H1 i h x xs (hx.mono p1) lx
 clear lw lx
 rcases hw.two with rfl | ⟨_, _, _, _, _, _, rfl⟩ <;> cases hf : fits i h ws <;> rw [hf] at c1
 all_goals clear hw hx
 all_goals refine goW ?_
 all_goals refine UH (h' := H1) hH1 ?_
 all_goals refine goW ?_
 all_goals refine AI c1 ?_
 all_goals refine goW ?_
 all_goals try refine AI c2 ?_
 all_goals refine goW ?_
 all_goals refine AL (by simp only [resRf, resRs, resR]; first | done | rfl) ⟨_, ?_, p1, nat⟩
 all_goals simp [AD, AB]
theorem MM (H : Heap) (n : Int) : Call Tryz.prog 28 [.int .i64 n] H (.int .i64 n) H := by
 refine AJ fit mixed Tryz.func28 rfl rfl rfl (by kernel_rfl) rfl ?_
 refine goW ?_
 refine Ai ?_; simp [AD, AB, *]
theorem Mb {α : Type} {xs ys : List α} {k : Nat} {x y : α} (h : xs.take k = ys.take k) (hx : xs[k]? = some x) (hy : ys[k]? = some y) (e : x = y) : xs.take (k + 1) = ys.take (k + 1) := by
 rw [List.take_add_one, List.take_add_one, h, hx, hy, e]
theorem MX (H : Heap) (u v : V) (xs ys : List Int) (hx : Sl 1 AH H u xs) (hy : Sl 1 AH H v ys) (lx : xs.length ≤ 2 ^ 47) : Call Tryz.prog 68 [u, v] H (.bool (decide (xs = ys))) H := by
 refine AJ fit mixed Tryz.func68 rfl rfl rfl (by kernel_rfl) rfl ?_
 have hlx := hx.len T27 rfl
 have hly := hy.len T27 rfl
 refine goW ?_
 refine AE (fun hb => ?_) (fun hb => ?_)
 ·refine goW ?_
  refine Ai ?_; simp [AD, AB, *]
  intro e
  subst e
  simp at hb
 ·have hl : xs.length = ys.length := by simp at hb; omega
  refine goW ?_
  refine AT (fun c ρ h => ∃ k, k ≤ xs.length ∧ c = xs.length - k ∧ h = H ∧ xs.take k = ys.take k ∧ ρ 0 = u ∧ ρ 1 = v ∧ ρ 5 = .int .i64 (k : Nat)) ⟨0, Nat.zero_le _, rfl, rfl, by simp, rfl, rfl, rfl⟩ ?_
  rintro _ ρ h ⟨k, hk, rfl, rfl, hsame, h0, h1, h5⟩
  refine goW ?_
  refine AE (fun hb => ?_) (fun hb => ?_)
  ·have hk' : k < xs.length := by simp at hb; omega
   obtain ⟨x, hxk⟩ : ∃ e, xs[k]? = some e := ⟨xs[k], by simp [hk']⟩
   obtain ⟨y, hyk⟩ : ∃ e, ys[k]? = some e := ⟨ys[k]'(by omega), by simp⟩
   obtain ⟨b, o, cs, hi, rfl, _, hlo, _⟩ := hx.get T27 rfl T3 rfl hxk
   obtain ⟨b2, o2, cs, hi2, rfl, _, hlo2, _⟩ := hy.get T27 rfl T3 rfl hyk
   have ho := AF T3 rfl hlo
   have ho2 := AF T3 rfl hlo2
   have hw := AG (n := k) (by omega)
   refine goW ?_
   refine AE (fun hc => ?_) (fun hc => ?_)
   all_goals simp at hc
   ·refine goW ?_
    refine Ai ?_; simp [AD, AB, *]
    intro e
    subst e
    rw [hxk] at hyk
    exact hc (Option.some.inj hyk)
   ·refine goW ?_
    refine ⟨xs.length - (k + 1), by omega, k + 1, hk', rfl, rfl, Mb hsame hxk hyk hc, ?_⟩
    simp [AD, AB, *]
  ·have hk' : k = xs.length := by simp at hb; omega
   subst hk'
   refine goW ?_
   refine Ai ?_; simp [AD, AB, *]
   rw [List.take_of_length_le (Nat.le_refl _), List.take_of_length_le (by omega)] at hsame
   exact hsame
def Dg (cs : List V) (p : V × Int) : Prop := cs = [p.1, .int .i64 p.2]
def VN (H : Heap) (p : V × Int) (r : List Int × Int) : Prop := Sl 1 AH H p.1 r.1 ∧ p.2 = r.2
def Lq (H : Heap) (rv : List (V × Int)) (rs : List (List Int × Int)) : Prop := rv.length = rs.length ∧ ∀ (k : Nat) p r, rv[k]? = some p → rs[k]? = some r → VN H p r
def Rows (H : Heap) (v : V) (rs : List (List Int × Int)) : Prop := ∃ rv, Sl 2 Dg H v rv ∧ Lq H rv rs
theorem VN.mono {H H' : Heap} {p : V × Int} {r : List Int × Int} (hp : H <+: H') (h : VN H p r) : VN H' p r := ⟨h.1.mono hp, h.2⟩
theorem Lq.mono {H H' : Heap} {rv : List (V × Int)} {rs : List (List Int × Int)} (hp : H <+: H') (h : Lq H rv rs) : Lq H' rv rs := ⟨h.1, fun k p r a b => (h.2 k p r a b).mono hp⟩
theorem Rows.mono {H H' : Heap} {v : V} {rs : List (List Int × Int)} (hp : H <+: H') (h : Rows H v rs) : Rows H' v rs := by
 obtain ⟨rv, h1, h2⟩ := h
 exact ⟨rv, h1.mono hp, h2.mono hp⟩
theorem Xg (H : Heap) (u v : V) (xs ys : List (List Int × Int)) (hx : Rows H u xs) (hy : Rows H v ys) (lx : xs.length ≤ 2 ^ 47) (l1 : ∀ r ∈ xs, r.1.length ≤ 2 ^ 47) : Call Tryz.prog 67 [u, v] H (.bool (decide (xs = ys))) H := by
 refine AJ fit mixed Tryz.func67 rfl rfl rfl (by kernel_rfl) rfl ?_
 obtain ⟨xv, hxv, hxl, hxr⟩ := hx
 obtain ⟨yv, hyv, hyl, hyr⟩ := hy
 have hlx := hxv.len T24 rfl
 have hly := hyv.len T24 rfl
 rw [hxl] at hlx
 rw [hyl] at hly
 refine goW ?_
 refine AE (fun hb => ?_) (fun hb => ?_)
 ·refine goW ?_
  refine Ai ?_; simp [AD, AB, *]
  intro e
  subst e
  simp at hb
 ·have hl : xs.length = ys.length := by simp at hb; omega
  refine goW ?_
  refine AT (fun c ρ h => ∃ k, k ≤ xs.length ∧ c = xs.length - k ∧ h = H ∧ xs.take k = ys.take k ∧ ρ 0 = u ∧ ρ 1 = v ∧ ρ 5 = .int .i64 (k : Nat)) ⟨0, Nat.zero_le _, rfl, rfl, by simp, rfl, rfl, rfl⟩ ?_
  rintro _ ρ h ⟨k, hk, rfl, rfl, hsame, h0, h1, h5⟩
  clear hb
  refine goW ?_
  refine AE (fun hb => ?_) (fun hb => ?_)
  ·have hk' : k < xs.length := by simp at hb; omega
   clear hb
   obtain ⟨⟨px, a⟩, hpk⟩ : ∃ p, xv[k]? = some p := ⟨xv[k]'(by omega), by simp⟩
   obtain ⟨⟨al, a'⟩, hxk⟩ : ∃ r, xs[k]? = some r := ⟨xs[k], by simp [hk']⟩
   obtain ⟨⟨qx, c⟩, hqk⟩ : ∃ p, yv[k]? = some p := ⟨yv[k]'(by omega), by simp⟩
   obtain ⟨⟨cs, c'⟩, hyk⟩ : ∃ r, ys[k]? = some r := ⟨ys[k]'(by omega), by simp⟩
   obtain ⟨s1, e1⟩ := hxr k _ _ hpk hxk
   obtain rfl : a = a' := e1
   obtain ⟨s2, e2⟩ := hyr k _ _ hqk hyk
   obtain rfl : c = c' := e2
   obtain ⟨b, o, _, hi, rfl, _, _, hlo⟩ := hxv.get T24 rfl GD rfl hpk
   obtain ⟨b2, o2, _, hi2, rfl, _, _, hlo2⟩ := hyv.get T24 rfl GD rfl hqk
   have q0 : loadV T 27 h b o = some px := AF T27 rfl (hlo 0 _ rfl)
   have q1 : loadV T 3 h b (o + 1) = some (.int .i64 a) := AF T3 rfl (hlo 1 _ rfl)
   have r0 : loadV T 27 h b2 o2 = some qx := AF T27 rfl (hlo2 0 _ rfl)
   have r1 : loadV T 3 h b2 (o2 + 1) = some (.int .i64 c) := AF T3 rfl (hlo2 1 _ rfl)
   have c1 := MX h px qx al cs s1 s2 (l1 _ (List.mem_iff_getElem?.2 ⟨k, hxk⟩))
   have hw := AG (n := k) (by omega)
   by_cases hac : a = c
   ·subst hac
    by_cases hcs : al = cs
    ·subst hcs
     rw [decide_eq_true rfl] at c1
     have hnext := Mb hsame hxk hyk rfl
     clear hlo hlo2 hxk hyk hpk hqk s1 s2 hsame
     refine goW ?_
     refine AI c1 ?_
     refine goW ?_
     refine AE (fun hb => ?_) (fun hb => ?_)
     ·cases hb
     ·refine goW ?_
      refine ⟨xs.length - (k + 1), by omega, k + 1, hk', rfl, rfl, hnext, ?_⟩
      simp [AD, AB, *]
    ·rw [decide_eq_false hcs] at c1
     have hno : decide (xs = ys) = false := decide_eq_false fun e => by
      subst e; rw [hxk] at hyk; cases hyk; exact hcs rfl
     clear hlo hlo2 hxk hyk hpk hqk s1 s2 hsame hcs
     refine goW ?_
     refine AI c1 ?_
     refine goW ?_
     refine AE (fun hb => ?_) (fun hb => ?_)
     ·refine goW ?_
      refine AL (by simp only [resRf, resRs, resR]; first | done | rfl) ⟨?_, by first | exact List.prefix_refl _ | exact List.prefix_append _ _ | assumption | (refine List.IsPrefix.trans (by assumption) (List.prefix_append _ _)) | (simp only [List.append_assoc, List.cons_append, List.nil_append, List.set_cons_zero, List.set_cons_succ]; exact ⟨_, by simp only [List.append_assoc, List.cons_append, List.nil_append]; rfl⟩)⟩
      rw [hno]
      simp [AD, AB]
     ·cases hb
   ·have hne : (a != c) = true := by simp [hac]
    have hno : decide (xs = ys) = false := decide_eq_false fun e => by
     subst e; rw [hxk] at hyk; cases hyk; exact hac rfl
    clear hlo hlo2 hxk hyk hpk hqk s1 s2 hsame c1 hac
    refine goW ?_
    refine AE (fun hb => ?_) (fun hb => ?_)
    ·refine goW ?_
     refine AL (by simp only [resRf, resRs, resR]; first | done | rfl) ⟨?_, by first | exact List.prefix_refl _ | exact List.prefix_append _ _ | assumption | (refine List.IsPrefix.trans (by assumption) (List.prefix_append _ _)) | (simp only [List.append_assoc, List.cons_append, List.nil_append, List.set_cons_zero, List.set_cons_succ]; exact ⟨_, by simp only [List.append_assoc, List.cons_append, List.nil_append]; rfl⟩)⟩
     rw [hno]
     simp [AD, AB]
    ·cases hb
  ·have hk' : k = xs.length := by simp at hb; omega
   subst hk'
   clear hb
   refine goW ?_
   refine AL (by simp only [resRf, resRs, resR]; first | done | rfl) ⟨?_, by first | exact List.prefix_refl _ | exact List.prefix_append _ _ | assumption | (refine List.IsPrefix.trans (by assumption) (List.prefix_append _ _)) | (simp only [List.append_assoc, List.cons_append, List.nil_append, List.set_cons_zero, List.set_cons_succ]; exact ⟨_, by simp only [List.append_assoc, List.cons_append, List.nil_append]; rfl⟩)⟩
   rw [List.take_of_length_le (Nat.le_refl _), List.take_of_length_le (by omega)] at hsame
   rw [decide_eq_true hsame]
   simp [AD, AB]
-- what is handed in
theorem RO {K : Heap} {D : Type} {v : V} {d : DataW D} (h : RdV T K 27 v d) : ∃ xs, Sl 1 AH K v xs ∧ xs.length * 8 ≤ reachBytes :=
 (h.plain T27 rfl).isSlice T27 rfl T3 fun cs x hx => by
  obtain ⟨n, h1, _⟩ := hx.isInt T3 rfl
  exact ⟨n, h1⟩
theorem TL {K : Heap} {D : Type} {vs : List V} {d : DataW D} (hr : Rd T K 111 vs d) : ∃ x xs y, vs = [x, .int .i64 y] ∧ Sl 1 AH K x xs ∧ xs.length * 8 ≤ reachBytes := by
 obtain ⟨hl, hf⟩ := hr.field GD rfl
 replace hl : vs.length = 2 := hl
 obtain ⟨x0, h0⟩ := hf 0 _ _ rfl T27
 obtain ⟨x1, h1⟩ := hf 1 _ _ rfl T3
 obtain ⟨n1, e1, _⟩ := h1.isInt T3 rfl
 match vs, hl, h0, e1 with
 | [a, b], _, h0, e1 =>
  simp at e1
  subst e1
  obtain ⟨xs, h2, h3⟩ := RO ⟨_, T27, .inr ⟨rfl, h0⟩⟩
  exact ⟨a, xs, n1, rfl, h2, h3⟩
end Go.Proofs.YtncjbjlmgnjhiaaGreat.VM
namespace Go.Proofs.YtncjbjlmgnjhiaaGreat.VM
open Go
set_option linter.unusedVariables false
set_option linter.unusedSimpArgs false
attribute [local irreducible] wq wqL wqD wqE wqO Th Bk EndR
attribute [local irreducible] Jq wqJ
set_option maxHeartbeats 8000000
def Jt (x : Nat) : Nat := ((x ^^^ (x / 32768)) * 1103515 + 12345) % 2147483648
def Li (s k : Nat) : Nat := (40503 * s + 30011 * k + 12345) % 2147483648
def Db (s k : Nat) : Nat := Jt (Jt (Jt (Li s k))) / 256 % 65536
def DF (s k : Int) : Bool := within s 0 65535 && within k 0 1048576
theorem RF (x : Nat) : Jt x < 2147483648 := Nat.mod_lt _ (by decide)
theorem fI {x : Nat} (hx : x < 2147483648) : (x ^^^ (x / 32768)) < 2147483648 := Nat.xor_lt_two_pow (n := 31) hx (Nat.lt_of_le_of_lt (Nat.div_le_self _ _) hx)
theorem Tw {x : Nat} (hx : x < 2 ^ 63) : (BitVec.ofInt IntKind.i64.bits (x : Int)).toNat = x := by
 show (BitVec.ofInt 64 (x : Int)).toNat = x
 rw [BitVec.toNat_ofInt]
 omega
theorem fX {x y : Nat} (hx : x < 2147483648) (hy : y < 2147483648) : IntKind.i64.wrap ((BitVec.ofInt IntKind.i64.bits (x : Int) ^^^ BitVec.ofInt IntKind.i64.bits (y : Int)).toNat : Int) = ((x ^^^ y : Nat) : Int) := by
 rw [BitVec.toNat_xor, Tw (by omega), Tw (by omega)]
 have := Nat.xor_lt_two_pow (n := 31) hx hy
 exact Am (by omega)
theorem cW {x : Nat} (hx : x < 2 ^ 62) : IntKind.i64.wrap ((BitVec.ofInt IntKind.i64.bits (x : Int) &&& BitVec.ofInt IntKind.i64.bits 2147483647).toNat : Int) = ((x % 2147483648 : Nat) : Int) := by
 have h : (BitVec.ofInt IntKind.i64.bits 2147483647).toNat = 2 ^ 31 - 1 := by decide
 rw [BitVec.toNat_and, Tw (by omega), h, Nat.and_two_pow_sub_one_eq_mod]
 exact Am (by omega)
theorem Vb (x n : Nat) (hn : n ≤ 62) : ((x : Nat) : Int).fdiv (2 ^ min n IntKind.i64.bits) = ((x / 2 ^ n : Nat) : Int) := by
 have : min n IntKind.i64.bits = n := Nat.min_eq_left (by show n ≤ 64; omega)
 rw [this, Int.fdiv_eq_ediv_of_nonneg _ (by exact Int.le_of_lt (Int.pow_pos (by decide)))]
 push_cast
 rfl
theorem Lw (H : Heap) (x : Int) : Call Tryz.prog 106 [.int .i64 x] H (.bool (within x 0 65535)) H := by
 refine AJ fit mixed Tryz.func106 rfl rfl rfl (by kernel_rfl) rfl ?_
 repeat' (first | (refine Bs ?_; refine CH ?_) | (refine Bz ?_; refine CZ ?_) | (refine CG ?_; first | refine BO ?_ | refine At ?_) | (refine CF ?_; first | refine BS ?_ | refine Aw ?_) | refine AO ?_ | refine AK ?_ | refine Ae (by decide +kernel) ?_ | refine AW ?_ | refine BN ?_ | refine BM ?_ | refine Ah ?_ | refine As ?_ | refine Ag ?_ | refine AR ?_ | refine Ar ?_ | refine Ad ?_ | refine AS ?_ | refine Aq ?_ | refine Ac ?_ | refine AV rfl ?_ | first | refine Br (fun hb => ?_) (fun hb => ?_) | refine Bp (fun hb => ?_) (fun hb => ?_))
 all_goals refine Ai ?_; simp [AD, AB, *]
 all_goals simp_all [within]
 all_goals (first | done | omega)
theorem Nu (H : Heap) (s k : Int) : Call Tryz.prog 199 [.int .i64 s, .int .i64 k] H (.bool (DF s k)) H := by
 refine AJ fit mixed Tryz.func199 rfl rfl rfl (by kernel_rfl) rfl ?_
 repeat' (first | (refine Bs ?_; refine CH ?_) | (refine Bz ?_; refine CZ ?_) | (refine CG ?_; first | refine BO ?_ | refine At ?_) | (refine CF ?_; first | refine BS ?_ | refine Aw ?_) | refine AO ?_ | refine AK ?_ | refine Ae (by decide +kernel) ?_ | refine AW ?_ | refine BN ?_ | refine BM ?_ | refine Ah ?_ | refine As ?_ | refine Ag ?_ | refine AR ?_ | refine Ar ?_ | refine Ad ?_ | refine AS ?_ | refine Aq ?_ | refine Ac ?_ | refine AV rfl ?_ | refine AA (Lw _ _) ?_ | first | refine Br (fun hb => ?_) (fun hb => ?_) | refine Bp (fun hb => ?_) (fun hb => ?_))
 all_goals refine Ai ?_; simp [AD, AB, *]
 all_goals simp_all [DF, within]
 all_goals (first | done | omega)
theorem LP {x : Nat} (hx : x < 2147483648) : ∃ a b c : Nat, ((x : Nat) : Int).fdiv (2 ^ min (Int.toNat 15) IntKind.i64.bits) = (a : Int) ∧ IntKind.i64.wrap ((BitVec.ofInt IntKind.i64.bits (x : Int) ^^^ BitVec.ofInt IntKind.i64.bits (a : Int)).toNat : Int) = (b : Int) ∧
  IntKind.i64.wrap ((b : Int) * 1103515) = ((b * 1103515 : Nat) : Int) ∧ IntKind.i64.wrap (((b * 1103515 : Nat) : Int) + 12345) = (c : Int) ∧ IntKind.i64.wrap ((BitVec.ofInt IntKind.i64.bits (c : Int) &&& BitVec.ofInt IntKind.i64.bits 2147483647).toNat : Int) = ((Jt x : Nat) : Int) ∧ c % 2147483648 = Jt x ∧ b < 2147483648 := by
 have h1 := Vb x 15 (by decide)
 have hxl := fI hx
 have h2 := fX hx (Nat.lt_of_le_of_lt (Nat.div_le_self x 32768) hx)
 refine ⟨x / 32768, x ^^^ (x / 32768), (x ^^^ (x / 32768)) * 1103515 + 12345, h1, h2, ?_, ?_, ?_, rfl, hxl⟩
 ·rw [show ((x ^^^ (x / 32768) : Nat) : Int) * 1103515 = (((x ^^^ (x / 32768)) * 1103515 : Nat) : Int) by omega]
  exact Am (by omega)
 ·rw [show (((x ^^^ (x / 32768)) * 1103515 : Nat) : Int) + 12345 = (((x ^^^ (x / 32768)) * 1103515 + 12345 : Nat) : Int) by omega]
  exact Am (by omega)
 ·exact cW (by omega)
theorem QK {s k : Nat} (hs : s ≤ 65535) (hk : k ≤ 1048576) : ∃ a b c d : Nat, IntKind.i64.wrap (40503 * (s : Int)) = (a : Int) ∧ IntKind.i64.wrap (30011 * (k : Int)) = (b : Int) ∧ IntKind.i64.wrap ((a : Int) + (b : Int)) = (c : Int) ∧ IntKind.i64.wrap ((c : Int) + 12345) = (d : Int) ∧
  IntKind.i64.wrap ((BitVec.ofInt IntKind.i64.bits (d : Int) &&& BitVec.ofInt IntKind.i64.bits 2147483647).toNat : Int) = ((Li s k : Nat) : Int) ∧ d % 2147483648 = Li s k := by
 refine ⟨40503 * s, 30011 * k, 40503 * s + 30011 * k, 40503 * s + 30011 * k + 12345, ?_, ?_, ?_, ?_, cW (by omega), rfl⟩
 ·rw [show 40503 * (s : Int) = ((40503 * s : Nat) : Int) by omega]; exact Am (by omega)
 ·rw [show 30011 * (k : Int) = ((30011 * k : Nat) : Int) by omega]; exact Am (by omega)
 ·rw [← Int.natCast_add]; exact Am (by omega)
 ·rw [show ((40503 * s + 30011 * k : Nat) : Int) + 12345 = ((40503 * s + 30011 * k + 12345 : Nat) : Int) by omega]; exact Am (by omega)
theorem JB (H : Heap) (s k : Nat) (hm : DF s k = true) : Call Tryz.prog 145 [.int .i64 s, .int .i64 k] H (.tup [.int .i64 (Db s k : Nat), .int .i64 0]) H := by
 refine Rw fit mixed 2 Tryz.func145 rfl rfl rfl (l := 0) (by rfl) (by kernel_rfl) (by kernel_rfl) (by kernel_rfl) rfl ?_
 have c1 := Nu H s k
 rw [hm] at c1
 simp only [DF, Bool.and_eq_true, within_iff] at hm
 have hs : s ≤ 65535 := by omega
 have hk : k ≤ 1048576 := by omega
 obtain ⟨a0, b0, c0, d0, e1, e2, e3, e4, e5, _⟩ := QK hs hk
 obtain ⟨x0, hx0⟩ : ∃ x0, Li s k = x0 := ⟨_, rfl⟩
 have l0 : x0 < 2147483648 := by rw [← hx0]; exact Nat.mod_lt _ (by decide)
 obtain ⟨a1, b1, c1', f1, f2, f3, f4, f5, _, _⟩ := LP l0
 obtain ⟨x1, hx1⟩ : ∃ x1, Jt x0 = x1 := ⟨_, rfl⟩
 have l1 : x1 < 2147483648 := by rw [← hx1]; exact RF _
 obtain ⟨a2, b2, c2', g1, g2, g3, g4, g5, _, _⟩ := LP l1
 obtain ⟨x2, hx2⟩ : ∃ x2, Jt x1 = x2 := ⟨_, rfl⟩
 have l2 : x2 < 2147483648 := by rw [← hx2]; exact RF _
 obtain ⟨a3, b3, c3', i1, i2, i3, i4, i5, _, _⟩ := LP l2
 obtain ⟨x3, hx3⟩ : ∃ x3, Jt x2 = x3 := ⟨_, rfl⟩
 have hd : Db s k = x3 / 256 % 65536 := by unfold Db; rw [hx0, hx1, hx2, hx3]
 rw [hx0] at e5
 rw [hx1] at f5
 rw [hx2] at g5
 rw [hx3] at i5
 have j1 : ((x3 : Nat) : Int).fdiv (2 ^ min (Int.toNat 8) IntKind.i64.bits) = ((x3 / 2 ^ 8 : Nat) : Int) := Vb x3 8 (by decide)
 have j2 : ((x3 / 2 ^ 8 : Nat) : Int).tmod 65536 = ((x3 / 256 % 65536 : Nat) : Int) := by rw [Int.tmod_eq_emod_of_nonneg (by omega)]; omega
 rw [hd]
 clear hd hx0 hx1 hx2 hx3 hm hs hk l0 l1 l2
 refine goW ?_
 refine Tn ?_
 repeat (first | (refine Bs ?_; refine CH ?_) | (refine Bz ?_; refine CZ ?_) | (refine CG ?_; first | refine BO ?_ | refine At ?_) | (refine CF ?_; first | refine BS ?_ | refine Aw ?_) | refine AO ?_ | refine AK ?_ | refine Ae (by decide +kernel) ?_ | refine AW ?_ | refine BN ?_ | refine BM ?_ | refine Ah ?_ | refine As ?_ | refine Ag ?_ | refine AR ?_ | refine Ar ?_ | refine Ad ?_ | refine AS ?_ | refine Aq ?_ | refine Ac ?_ | refine AV rfl ?_ | refine Fv ?_ | refine JK ?_)
 refine AA c1 ?_
 repeat (first | (refine Bs ?_; refine CH ?_) | (refine Bz ?_; refine CZ ?_) | (refine CG ?_; first | refine BO ?_ | refine At ?_) | (refine CF ?_; first | refine BS ?_ | refine Aw ?_) | refine AO ?_ | refine AK ?_ | refine Ae (by decide +kernel) ?_ | refine AW ?_ | refine BN ?_ | refine BM ?_ | refine Ah ?_ | refine As ?_ | refine Ag ?_ | refine AR ?_ | refine Ar ?_ | refine Ad ?_ | refine AS ?_ | refine Aq ?_ | refine Ac ?_ | refine AV rfl ?_ | refine Fv ?_ | refine JK ?_)
 refine AE (fun hb => ?_) (fun hb => ?_)
 ·cases hb
 clear hb
 repeat (first | (refine Bs ?_; refine CH ?_) | (refine Bz ?_; refine CZ ?_) | (refine CG ?_; first | refine BO ?_ | refine At ?_) | (refine CF ?_; first | refine BS ?_ | refine Aw ?_) | refine AO ?_ | refine AK ?_ | refine Ae (by decide +kernel) ?_ | refine AW ?_ | refine BN ?_ | refine BM ?_ | refine Ah ?_ | refine As ?_ | refine Ag ?_ | refine AR ?_ | refine Ar ?_ | refine Ad ?_ | refine AS ?_ | refine Aq ?_ | refine Ac ?_ | refine AV rfl ?_ | refine Fv ?_ | refine JK ?_)
 refine AE (fun hb => ?_) (fun hb => ?_)
 ·repeat (first | (refine Bs ?_; refine CH ?_) | (refine Bz ?_; refine CZ ?_) | (refine CG ?_; first | refine BO ?_ | refine At ?_) | (refine CF ?_; first | refine BS ?_ | refine Aw ?_) | refine AO ?_ | refine AK ?_ | refine Ae (by decide +kernel) ?_ | refine AW ?_ | refine BN ?_ | refine BM ?_ | refine Ah ?_ | refine As ?_ | refine Ag ?_ | refine AR ?_ | refine Ar ?_ | refine Ad ?_ | refine AS ?_ | refine Aq ?_ | refine Ac ?_ | refine AV rfl ?_ | refine Fv ?_ | refine JK ?_ | refine NY ?_ | refine NW ?_ | refine NO ?_)
  refine Tn ?_
  repeat (first | (refine Bs ?_; refine CH ?_) | (refine Bz ?_; refine CZ ?_) | (refine CG ?_; first | refine BO ?_ | refine At ?_) | (refine CF ?_; first | refine BS ?_ | refine Aw ?_) | refine AO ?_ | refine AK ?_ | refine Ae (by decide +kernel) ?_ | refine AW ?_ | refine BN ?_ | refine BM ?_ | refine Ah ?_ | refine As ?_ | refine Ag ?_ | refine AR ?_ | refine Ar ?_ | refine Ad ?_ | refine AS ?_ | refine Aq ?_ | refine Ac ?_ | refine AV rfl ?_ | refine Fv ?_ | refine JK ?_ | refine NY ?_ | refine NW ?_ | refine NO ?_)
  refine AE (fun hb => ?_) (fun hb => ?_)
  ·repeat (first | (refine Bs ?_; refine CH ?_) | (refine Bz ?_; refine CZ ?_) | (refine CG ?_; first | refine BO ?_ | refine At ?_) | (refine CF ?_; first | refine BS ?_ | refine Aw ?_) | refine AO ?_ | refine AK ?_ | refine Ae (by decide +kernel) ?_ | refine AW ?_ | refine BN ?_ | refine BM ?_ | refine Ah ?_ | refine As ?_ | refine Ag ?_ | refine AR ?_ | refine Ar ?_ | refine Ad ?_ | refine AS ?_ | refine Aq ?_ | refine Ac ?_ | refine AV rfl ?_ | refine Fv ?_ | refine JK ?_ | refine NY ?_ | refine NW ?_ | refine NO ?_)
   refine Zy ?_
   repeat (first | (refine Bs ?_; refine CH ?_) | (refine Bz ?_; refine CZ ?_) | (refine CG ?_; first | refine BO ?_ | refine At ?_) | (refine CF ?_; first | refine BS ?_ | refine Aw ?_) | refine AO ?_ | refine AK ?_ | refine Ae (by decide +kernel) ?_ | refine AW ?_ | refine BN ?_ | refine BM ?_ | refine Ah ?_ | refine As ?_ | refine Ag ?_ | refine AR ?_ | refine Ar ?_ | refine Ad ?_ | refine AS ?_ | refine Aq ?_ | refine Ac ?_ | refine AV rfl ?_ | refine Fv ?_ | refine JK ?_ | refine NY ?_ | refine NW ?_ | refine NO ?_)
   refine AE (fun hb => ?_) (fun hb => ?_)
   ·cases hb
   ·repeat (first | (refine Bs ?_; refine CH ?_) | (refine Bz ?_; refine CZ ?_) | (refine CG ?_; first | refine BO ?_ | refine At ?_) | (refine CF ?_; first | refine BS ?_ | refine Aw ?_) | refine AO ?_ | refine AK ?_ | refine Ae (by decide +kernel) ?_ | refine AW ?_ | refine BN ?_ | refine BM ?_ | refine Ah ?_ | refine As ?_ | refine Ag ?_ | refine AR ?_ | refine Ar ?_ | refine Ad ?_ | refine AS ?_ | refine Aq ?_ | refine Ac ?_ | refine AV rfl ?_ | refine Fv ?_ | refine JK ?_)
    refine AL (by simp only [resRf, resRs, resR]; first | done | rfl) ⟨?_, by first | exact List.prefix_refl _ | exact List.prefix_append _ _ | assumption | (refine List.IsPrefix.trans (by assumption) (List.prefix_append _ _)) | (simp only [List.append_assoc, List.cons_append, List.nil_append, List.set_cons_zero, List.set_cons_succ]; exact ⟨_, by simp only [List.append_assoc, List.cons_append, List.nil_append]; rfl⟩)⟩
    simp only [AD, AB]
    rfl
  ·cases hb
 ·cases hb
end Go.Proofs.YtncjbjlmgnjhiaaGreat.VM
namespace Go.Proofs.YtncjbjlmgnjhiaaGreat.VM
open Go
set_option linter.unusedVariables false
set_option linter.unusedSimpArgs false
attribute [local irreducible] wq wqL wqD wqE wqO Th Bk EndR
set_option maxHeartbeats 8000000
def DQ (s k b : Nat) : Nat := Db s k * b / 65536
theorem Ho (s k : Nat) : Db s k < 65536 := Nat.mod_lt _ (by decide)
theorem Jc (H : Heap) (s k b : Nat) (hm : DF s k = true) (hb1 : 1 ≤ b) (hb2 : b ≤ 65536) : Call Tryz.prog 188 [.int .i64 s, .int .i64 k, .int .i64 b] H (.tup [.int .i64 (DQ s k b : Nat), .int .i64 0]) H := by
 refine AJ fit mixed Tryz.func188 rfl rfl rfl (by kernel_rfl) rfl ?_
 have c1 := JB H s k hm
 have hlt := Ho s k
 obtain ⟨x, hx⟩ : ∃ x, Db s k = x := ⟨_, rfl⟩
 have hp : DQ s k b = x * b / 65536 := by unfold DQ; rw [hx]
 rw [hx] at c1 hlt
 rw [hp]
 have hxb : x * b ≤ 65536 * 65536 := Nat.mul_le_mul (by omega) hb2
 have d1 : decide ((b : Int) < 1) = false := decide_eq_false (by omega)
 have d2 : decide ((b : Int) > 65536) = false := decide_eq_false (by omega)
 have w1 : IntKind.i64.wrap ((x : Int) * (b : Int)) = ((x * b : Nat) : Int) := by rw [← Int.natCast_mul]; exact Am (by omega)
 have w2 : IntKind.i64.wrap (((x * b : Nat) : Int).tdiv 65536) = ((x * b / 65536 : Nat) : Int) := by
  rw [Int.tdiv_eq_ediv_of_nonneg (by omega)]
  have : ((x * b : Nat) : Int) / 65536 = ((x * b / 65536 : Nat) : Int) := by omega
  rw [this]; exact Am (by omega)
 clear hx hp hxb hm hb1 hb2 hlt
 refine goW ?_
 refine AA c1 ?_
 refine goW ?_
 refine AE (fun hb => ?_) (fun hb => ?_)
 ·cases hb
 clear hb
 refine goW ?_
 refine AL (by simp only [resRf, resRs, resR]; first | done | rfl) ⟨?_, by first | exact List.prefix_refl _ | exact List.prefix_append _ _ | assumption | (refine List.IsPrefix.trans (by assumption) (List.prefix_append _ _)) | (simp only [List.append_assoc, List.cons_append, List.nil_append, List.set_cons_zero, List.set_cons_succ]; exact ⟨_, by simp only [List.append_assoc, List.cons_append, List.nil_append]; rfl⟩)⟩
 simp only [AD, AB]
 rfl
theorem Hi (H : Heap) (x : Int) : Call Tryz.prog 47 [.int .i64 x] H (.bool (within x 0 7)) H := by
 refine AJ fit mixed Tryz.func47 rfl rfl rfl (by kernel_rfl) rfl ?_
 repeat' (first | (refine Bs ?_; refine CH ?_) | (refine Bz ?_; refine CZ ?_) | (refine CG ?_; first | refine BO ?_ | refine At ?_) | (refine CF ?_; first | refine BS ?_ | refine Aw ?_) | refine AO ?_ | refine AK ?_ | refine Ae (by decide +kernel) ?_ | refine AW ?_ | refine BN ?_ | refine BM ?_ | refine Ah ?_ | refine As ?_ | refine Ag ?_ | refine AR ?_ | refine Ar ?_ | refine Ad ?_ | refine AS ?_ | refine Aq ?_ | refine Ac ?_ | refine AV rfl ?_ | first | refine Br (fun hb => ?_) (fun hb => ?_) | refine Bp (fun hb => ?_) (fun hb => ?_))
 all_goals refine Ai ?_; simp [AD, AB, *]
 all_goals simp_all [within]
 all_goals (first | done | omega)
theorem Ux (H : Heap) (s m t n : Nat) (hs : s ≤ 65535) (hm : m ≤ 7) (ht : t ≤ 32) (hn1 : 1 ≤ n) (hn2 : n ≤ 8) : Call Tryz.prog 142 [.int .i64 s, .int .i64 m, .int .i64 t, .int .i64 n] H (.tup [.int .i64 (DQ s (4096 * m + t) n : Nat), .int .i64 0]) H := by
 refine AJ fit mixed Tryz.func142 rfl rfl rfl (by kernel_rfl) rfl ?_
 have c1 := Lw H s
 have c2 := Hi H m
 rw [within_iff.2 ⟨by omega, by omega⟩] at c1 c2
 have d1 : decide ((t : Int) < 0) = false := decide_eq_false (by omega)
 have d2 : decide ((t : Int) > 32) = false := decide_eq_false (by omega)
 have d3 : decide ((n : Int) < 1) = false := decide_eq_false (by omega)
 have d4 : decide ((n : Int) > 8) = false := decide_eq_false (by omega)
 have w1 : IntKind.i64.wrap (4096 * (m : Int)) = ((4096 * m : Nat) : Int) := by rw [show 4096 * (m : Int) = ((4096 * m : Nat) : Int) by omega]; exact Am (by omega)
 have w2 : IntKind.i64.wrap (((4096 * m : Nat) : Int) + (t : Int)) = ((4096 * m + t : Nat) : Int) := by rw [← Int.natCast_add]; exact Am (by omega)
 have c3 := Jc H s (4096 * m + t) n (by simp only [DF, Bool.and_eq_true, within_iff]; omega) hn1 (by omega)
 clear hs hm ht hn1 hn2
 refine goW ?_
 refine AA c1 ?_
 refine goW ?_
 refine AA c2 ?_
 refine goW ?_
 refine AE (fun hb => ?_) (fun hb => ?_)
 ·cases hb
 clear hb
 refine goW ?_
 refine AA c3 ?_
 refine goW ?_
 refine Ai ?_; simp [AD, AB, *]
def BK (r m : Int) : Bool := within r 64 16384 && within m 0 58982
theorem TA (H : Heap) (r m : Int) : Call Tryz.prog 198 [.agg [.int .i64 r, .int .i64 m]] H (.bool (BK r m)) H := by
 refine AJ fit mixed Tryz.func198 rfl rfl rfl (by kernel_rfl) rfl ?_
 repeat' (first | (refine Bs ?_; refine CH ?_) | (refine Bz ?_; refine CZ ?_) | (refine CG ?_; first | refine BO ?_ | refine At ?_) | (refine CF ?_; first | refine BS ?_ | refine Aw ?_) | refine AO ?_ | refine AK ?_ | refine Ae (by decide +kernel) ?_ | refine AW ?_ | refine BN ?_ | refine BM ?_ | refine Ah ?_ | refine As ?_ | refine Ag ?_ | refine AR ?_ | refine Ar ?_ | refine Ad ?_ | refine AS ?_ | refine Aq ?_ | refine Ac ?_ | refine AV rfl ?_ | first | refine Br (fun hb => ?_) (fun hb => ?_) | refine Bp (fun hb => ?_) (fun hb => ?_))
 all_goals refine Ai ?_; simp [AD, AB, *]
 all_goals simp_all [BK, within]
 all_goals (first | done | omega)
theorem MD (H : Heap) (r m : Int) : Call Tryz.prog 216 [.agg [.int .i64 r, .int .i64 m]] H (.bool (BK r m)) H := by
 refine AJ fit mixed Tryz.func216 rfl rfl rfl (by kernel_rfl) rfl ?_
 refine goW ?_
 refine AA (TA _ r m) ?_
 refine goW ?_
 refine Ai ?_; simp [AD, AB, *]
theorem Fe (H : Heap) (x a b : Int) : Call Tryz.prog 104 [.int .i64 x, .int .i64 a, .int .i64 b] H (.bool (within x a b)) H := by
 refine AJ fit mixed Tryz.func104 rfl rfl rfl (by kernel_rfl) rfl ?_
 repeat' (first | (refine Bs ?_; refine CH ?_) | (refine Bz ?_; refine CZ ?_) | (refine CG ?_; first | refine BO ?_ | refine At ?_) | (refine CF ?_; first | refine BS ?_ | refine Aw ?_) | refine AO ?_ | refine AK ?_ | refine Ae (by decide +kernel) ?_ | refine AW ?_ | refine BN ?_ | refine BM ?_ | refine Ah ?_ | refine As ?_ | refine Ag ?_ | refine AR ?_ | refine Ar ?_ | refine Ad ?_ | refine AS ?_ | refine Aq ?_ | refine Ac ?_ | refine AV rfl ?_ | first | refine Br (fun hb => ?_) (fun hb => ?_) | refine Bp (fun hb => ?_) (fun hb => ?_))
 all_goals refine Ai ?_; simp [AD, AB, *]
 all_goals simp_all [within]
 all_goals (first | done | omega)
def alike (n : Nat) (xss : List (List Int)) : Bool := xss.all fun xs => BF xs && decide (xs.length = n)
def bM (cs : List V) (v : V) : Prop := cs = [v]
theorem YA (H : Heap) (v : V) (us : List V) (xss : List (List Int)) (n : Nat) (hv : Sl 1 bM H v us) (hl : us.length = xss.length) (hl2 : us.length ≤ 2 ^ 40) (hall : ∀ (k : Nat) u xs, us[k]? = some u → xss[k]? = some xs → Sl 1 AH H u xs ∧ xs.length ≤ 2 ^ 47) (hn : ∀ xs, xss[0]? = some xs → xs.length = n) :
  Call Tryz.prog 197 [v] H (.bool (alike n xss)) H := by
 refine AJ fit mixed Tryz.func197 rfl rfl rfl (by kernel_rfl) rfl ?_
 have hlen := hv.len QX rfl
 replace hl := hl.symm
 refine goW ?_
 refine AT (fun c ρ h => ∃ k, k ≤ us.length ∧ c = us.length - k ∧ h = H ∧ (∀ (j : Nat) xs, j < k → xss[j]? = some xs → (BF xs && decide (xs.length = n)) = true) ∧ ρ 0 = v ∧ ρ 5 = v ∧ ρ 6 = .int .i64 us.length ∧ ρ 7 = .int .i64 (k : Nat)) ⟨0, Nat.zero_le _, rfl, rfl, by intro j xs hj; omega, rfl, rfl, rfl, rfl⟩ ?_
 rintro _ ρ h ⟨k, hk, rfl, rfl, hgood, h0, h5, h6, h7⟩
 refine goW ?_
 refine AE (fun hb => ?_) (fun hb => ?_)
 ·have hk' : k < us.length := by simpa using hb
  clear hb
  obtain ⟨u, huk⟩ : ∃ x, us[k]? = some x := ⟨us[k], by simp [hk']⟩
  obtain ⟨xs, hxk⟩ : ∃ x, xss[k]? = some x := ⟨xss[k]'(by omega), by simp⟩
  obtain ⟨u0, hu0⟩ : ∃ x, us[0]? = some x := ⟨us[0]'(by omega), by simp⟩
  obtain ⟨x0, hx0⟩ : ∃ x, xss[0]? = some x := ⟨xss[0]'(by omega), by simp⟩
  obtain ⟨s1, sl1⟩ := hall k _ _ huk hxk
  obtain ⟨s2, _⟩ := hall 0 _ _ hu0 hx0
  have hn0 := hn _ hx0
  obtain ⟨b, o, cs, hi, rfl, _, hlo, _⟩ := hv.get QX rfl T27 rfl huk
  obtain ⟨b2, o2, cs, hi2, rfl, _, hlo2, _⟩ := hv.get QX rfl T27 rfl hu0
  have ho := AF T27 rfl hlo
  have ho2 := AF T27 rfl hlo2
  replace hi2 : idxV T 268 v 0 = some (.ptr b2 o2) := hi2
  have c1 := NX h u xs s1 sl1
  have g1 := s1.len T27 rfl
  have g2 := s2.len T27 rfl
  rw [hn0] at g2
  have hw := AG (n := k) (by omega)
  have hno : (BF xs && decide (xs.length = n)) = false → alike n xss = false := fun hbad => by
   unfold alike
   rw [List.all_eq_false]
   exact ⟨xs, List.mem_iff_getElem?.2 ⟨k, hxk⟩, by rw [hbad]; decide⟩
  cases hvm : BF xs
  ·rw [hvm] at c1
   have hfin := hno (by rw [hvm]; rfl)
   clear hno hgood hall hn hlo hlo2 s1 s2 hxk huk hx0 hu0
   refine goW ?_
   refine AA c1 ?_
   refine goW ?_
   refine AE (fun hb => ?_) (fun hb => ?_)
   ·refine goW ?_
    refine AL (by simp only [resRf, resRs, resR]; first | done | rfl) ⟨?_, by first | exact List.prefix_refl _ | exact List.prefix_append _ _ | assumption | (refine List.IsPrefix.trans (by assumption) (List.prefix_append _ _)) | (simp only [List.append_assoc, List.cons_append, List.nil_append, List.set_cons_zero, List.set_cons_succ]; exact ⟨_, by simp only [List.append_assoc, List.cons_append, List.nil_append]; rfl⟩)⟩
    rw [hfin]
    simp [AD, AB]
   ·cases hb
  ·rw [hvm] at c1
   by_cases hln : xs.length = n
   ·have hgk : (BF xs && decide (xs.length = n)) = true := by rw [hvm, hln]; simp
    have hall' : ∀ (j : Nat) ys, j < k + 1 → xss[j]? = some ys → (BF ys && decide (ys.length = n)) = true := fun j ys hj hy => by
     by_cases hjk : j = k
     ·subst hjk; rw [hxk] at hy; cases hy; exact hgk
     ·exact hgood j ys (by omega) hy
    rw [hln] at g1
    clear hgk hln hno hgood hall hn hlo hlo2 s1 s2 hxk huk hx0 hu0 hvm hn0
    refine goW ?_
    refine AA c1 ?_
    refine goW ?_
    refine AE (fun hb => ?_) (fun hb => ?_)
    ·simp at hb
    clear hb
    refine goW ?_
    refine ⟨us.length - (k + 1), by omega, k + 1, hk', rfl, rfl, hall', ?_⟩
    simp [AD, AB, *]
   ·have hfin := hno (by rw [hvm]; simp [hln])
    have hne : ((xs.length : Int) != (n : Int)) = true := by simp; omega
    clear hln hno hgood hall hn hlo hlo2 s1 s2 hxk huk hx0 hu0 hvm
    refine goW ?_
    refine AA c1 ?_
    refine goW ?_
    refine AE (fun hb => ?_) (fun hb => ?_)
    ·refine goW ?_
     refine AL (by simp only [resRf, resRs, resR]; first | done | rfl) ⟨?_, by first | exact List.prefix_refl _ | exact List.prefix_append _ _ | assumption | (refine List.IsPrefix.trans (by assumption) (List.prefix_append _ _)) | (simp only [List.append_assoc, List.cons_append, List.nil_append, List.set_cons_zero, List.set_cons_succ]; exact ⟨_, by simp only [List.append_assoc, List.cons_append, List.nil_append]; rfl⟩)⟩
     rw [hfin]
     simp [AD, AB]
    ·cases hb
 ·have hk' : k = us.length := by have : ¬ k < us.length := by simpa using hb
                                 omega
  have hfin : alike n xss = true := List.all_eq_true.2 fun xs hx => by
   obtain ⟨j, hj⟩ := List.mem_iff_getElem?.1 hx
   exact hgood j xs (by have := (List.getElem?_eq_some_iff.1 hj).1; omega) hj
  clear hb hk' hgood hall hn
  refine goW ?_
  refine AL (by simp only [resRf, resRs, resR]; first | done | rfl) ⟨?_, by first | exact List.prefix_refl _ | exact List.prefix_append _ _ | assumption | (refine List.IsPrefix.trans (by assumption) (List.prefix_append _ _)) | (simp only [List.append_assoc, List.cons_append, List.nil_append, List.set_cons_zero, List.set_cons_succ]; exact ⟨_, by simp only [List.append_assoc, List.cons_append, List.nil_append]; rfl⟩)⟩
  rw [hfin]
  simp [AD, AB]
-- rows
def Dp (i : Int) (r : List Int × Int) : Bool := Dz i r.1 && CA r.2
def Ct (i h : Int) (rs : List (List Int × Int)) : Bool := BL i h && (decide (1 ≤ rs.length) && decide (rs.length ≤ 8)) && rs.all (Dp i)
theorem Ys (H : Heap) (b : Nat) (i h y : Int) (x : V) (xs : List Int) (hb : H.loadN b 0 2 = some [.int .i64 i, .int .i64 h]) (hx : Sl 1 AH H x xs) (hl : xs.length ≤ 2 ^ 47) : Call Tryz.prog 162 [.agg [x, .int .i64 y], .ptr b 0] H (.bool (!(Dp i (xs, y)))) H := by
 refine AJ fit mixed Tryz.func162 rfl rfl rfl (by kernel_rfl) rfl ?_
 obtain ⟨H1, hH1⟩ : ∃ H1, H ++ [.row [x, .int .i64 y] true] = H1 := ⟨_, rfl⟩
 have p1 : H <+: H1 := by rw [← hH1]; exact List.prefix_append _ _
 have l0 : loadV T 23 H1 b 0 = some (.agg [.int .i64 i, .int .i64 h]) := AZ T23 rfl (Bc p1 hb)
 have l1 : loadV T 27 H1 H.length 0 = some x := AF T27 rfl (by rw [← hH1, Ab]; rfl)
 have l2 : loadV T 3 H1 H.length 1 = some (.int .i64 y) := AF T3 rfl (by rw [← hH1, Ab]; rfl)
 have c1 := Vg H1 i h x xs (hx.mono p1) hl
 have c2 := Qn H1 y
 have hfin : Dp i (xs, y) = (Dz i xs && CA y) := rfl
 rw [hfin]
 obtain ⟨r1, e1⟩ : ∃ r, Dz i xs = r := ⟨_, rfl⟩
 rw [e1] at c1 ⊢
 clear hfin e1 hb hx hl
 cases r1
 ·refine goW ?_
  refine Bb (h' := H1) hH1 ?_
  refine goW ?_
  refine AA c1 ?_
  refine goW ?_
  refine AL (by simp only [resRf, resRs, resR]; first | done | rfl) ⟨?_, p1⟩
  simp [AD, AB]
 ·refine goW ?_
  refine Bb (h' := H1) hH1 ?_
  refine goW ?_
  refine AA c1 ?_
  refine goW ?_
  refine AA c2 ?_
  refine goW ?_
  refine AL (by simp only [resRf, resRs, resR]; first | done | rfl) ⟨?_, p1⟩
  simp [AD, AB]
theorem UY (H : Heap) (b : Nat) (i h : Int) (v : V) (rs : List (List Int × Int)) (hs : H.loadN b 0 2 = some [.int .i64 i, .int .i64 h]) (hr : Rows H v rs) (hl : rs.length ≤ 2 ^ 47) (hxl : ∀ r ∈ rs, r.1.length ≤ 2 ^ 47) :
  ∃ r : Int, decide (r ≥ 0) = !(rs.all (Dp i)) ∧ Call Tryz.prog 214 [v, .fn 162 [.ptr b 0]] H (.int .i64 r) H := by
 obtain ⟨k0, hk0, hgood, hend⟩ := Ph (Dp i) rs
 obtain ⟨r, hre⟩ : ∃ r : Int, r = if k0 = rs.length then -1 else (k0 : Int) := ⟨_, rfl⟩
 refine ⟨r, ?_, ?_⟩
 ·rcases hend with ⟨h1, h2⟩ | ⟨h2, x, h3, _⟩
  ·rw [hre, if_pos h1, h2]; rfl
  ·have : k0 < rs.length := (List.getElem?_eq_some_iff.1 h3).1
   rw [hre, if_neg (by omega), h2]
   simp
 refine AJ fit mixed Tryz.func214 rfl rfl rfl (by kernel_rfl) rfl ?_
 obtain ⟨rv, hrv, hrl, hrr⟩ := hr
 have hlen := hrv.len T24 rfl
 rw [hrl] at hlen
 refine goW ?_
 refine AT (fun c ρ hp => ∃ k, k ≤ k0 ∧ c = rs.length - k ∧ hp = H ∧ ρ 0 = v ∧ ρ 1 = .fn 162 [.ptr b 0] ∧ ρ 7 = .int .i64 rs.length ∧ ρ 8 = .int .i64 (k : Nat)) ⟨0, Nat.zero_le _, rfl, rfl, rfl, rfl, rfl, rfl⟩ ?_
 rintro _ ρ hp ⟨k, hk, rfl, rfl, h0, h1, h7, h8⟩
 refine goW ?_
 refine AE (fun hb => ?_) (fun hb => ?_)
 ·have hk' : k < rs.length := by simpa using hb
  clear hb
  obtain ⟨⟨x, y⟩, hpk⟩ : ∃ p, rv[k]? = some p := ⟨rv[k]'(by omega), by simp⟩
  obtain ⟨⟨xs, y'⟩, hxk⟩ : ∃ x, rs[k]? = some x := ⟨rs[k], by simp [hk']⟩
  obtain ⟨s1, e1⟩ := hrr k _ _ hpk hxk
  obtain rfl : y = y' := e1
  obtain ⟨b2, o, _, hi, rfl, _, hlo, _⟩ := hrv.get T24 rfl GD rfl hpk
  have ho : loadV T 111 hp b2 o = some (.agg [x, .int .i64 y]) := AZ GD rfl hlo
  have hw := AG (n := k) (by omega)
  have hodd := Ys hp b i h y x xs hs s1 (hxl _ (List.mem_iff_getElem?.2 ⟨k, hxk⟩))
  by_cases hkk : k < k0
  ·have hg : Dp i (xs, y) = true := hgood k _ hkk hxk
   rw [hg] at hodd
   clear hend hg hxk hpk hlo s1 hrr hgood
   refine goW ?_
   refine AA hodd ?_
   refine goW ?_
   refine AE (fun hb => ?_) (fun hb => ?_)
   ·cases hb
   ·refine goW ?_
    refine ⟨rs.length - (k + 1), by omega, k + 1, hkk, rfl, rfl, ?_⟩
    simp [AD, AB, *]
  ·have hkk' : k = k0 := by omega
   rcases hend with ⟨h2, _⟩ | ⟨_, z, h3, h4⟩
   ·omega
   ·rw [← hkk', hxk] at h3
    obtain rfl := Option.some.inj h3
    rw [h4] at hodd
    rw [if_neg (by omega), ← hkk'] at hre
    subst hre
    clear hgood h3 h4 hkk hkk' hk hk0 hxk hpk hlo s1 hrr
    refine goW ?_
    refine AA hodd ?_
    refine goW ?_
    refine AE (fun hb => ?_) (fun hb => ?_)
    ·refine goW ?_
     refine AL (by simp only [resRf, resRs, resR]; first | done | rfl) ⟨?_, by first | exact List.prefix_refl _ | exact List.prefix_append _ _ | assumption | (refine List.IsPrefix.trans (by assumption) (List.prefix_append _ _)) | (simp only [List.append_assoc, List.cons_append, List.nil_append, List.set_cons_zero, List.set_cons_succ]; exact ⟨_, by simp only [List.append_assoc, List.cons_append, List.nil_append]; rfl⟩)⟩
     simp [AD, AB]
    ·cases hb
 ·have hk' : k = rs.length := by have : ¬ k < rs.length := by simpa using hb
                                 omega
  rw [if_pos (by omega)] at hre
  clear hb hgood hend hrr
  refine goW ?_
  refine AL (by simp only [resRf, resRs, resR]; first | done | rfl) ⟨?_, by first | exact List.prefix_refl _ | exact List.prefix_append _ _ | assumption | (refine List.IsPrefix.trans (by assumption) (List.prefix_append _ _)) | (simp only [List.append_assoc, List.cons_append, List.nil_append, List.set_cons_zero, List.set_cons_succ]; exact ⟨_, by simp only [List.append_assoc, List.cons_append, List.nil_append]; rfl⟩)⟩
  rw [hre]
  simp [AD, AB]
theorem Sk (H : Heap) (i h : Int) (v : V) (rs : List (List Int × Int)) (hr : Rows H v rs) (hl : rs.length ≤ 2 ^ 47) (hxl : ∀ r ∈ rs, r.1.length ≤ 2 ^ 47) : Call Tryz.prog 105 [.agg [.int .i64 i, .int .i64 h], v] H (.bool (Ct i h rs)) H := by
 refine AJ fit mixed Tryz.func105 rfl rfl rfl (by kernel_rfl) rfl ?_
 obtain ⟨H1, hH1⟩ : ∃ H1, H ++ [.row [.int .i64 i, .int .i64 h] true] = H1 := ⟨_, rfl⟩
 have p1 : H <+: H1 := by rw [← hH1]; exact List.prefix_append _ _
 have hs : H1.loadN H.length 0 2 = some [.int .i64 i, .int .i64 h] := by rw [← hH1, Ab]; rfl
 have l0 : loadV T 23 H1 H.length 0 = some (.agg [.int .i64 i, .int .i64 h]) := AZ T23 rfl hs
 have hr1 := hr.mono p1
 obtain ⟨rv, hrv, hrl, _⟩ := hr
 have hlen := hrv.len T24 rfl
 rw [hrl] at hlen
 have c1 := MY H1 i h
 obtain ⟨r, hr2, hidx⟩ := UY H1 H.length i h v rs hs hr1 hl hxl
 have hcon : Call Tryz.prog 166 [v, .fn 162 [.ptr H.length 0]] H1 (.bool (!(rs.all (Dp i)))) H1 := by
  refine AJ fit mixed Tryz.func166 rfl rfl rfl (by kernel_rfl) rfl ?_
  refine goW ?_
  refine AA hidx ?_
  refine goW ?_
  refine Ai ?_; simp [AD, AB, *]
 obtain ⟨q, hq⟩ : ∃ q, rs.all (Dp i) = q := ⟨_, rfl⟩
 have hfin : Ct i h rs = (BL i h && (decide (1 ≤ rs.length) && decide (rs.length ≤ 8)) && q) := by unfold Ct; rw [hq]
 rw [hq] at hcon
 rw [hfin]
 obtain ⟨r1, e1⟩ : ∃ r, BL i h = r := ⟨_, rfl⟩
 rw [e1] at c1 ⊢
 clear hr2 hidx hfin hq hs hr1 hrv hrl hxl e1
 cases r1
 ·refine goW ?_
  refine Bb (h' := H1) hH1 ?_
  refine goW ?_
  refine AA c1 ?_
  refine goW ?_
  refine AL (by simp only [resRf, resRs, resR]; first | done | rfl) ⟨?_, p1⟩
  simp [AD, AB]
 by_cases g1 : 1 ≤ rs.length
 ·have d1 : decide ((rs.length : Int) ≥ 1) = true := decide_eq_true (by omega)
  by_cases g2 : rs.length ≤ 8
  ·have d2 : decide ((rs.length : Int) ≤ 8) = true := decide_eq_true (by omega)
   have e3 : (decide (1 ≤ rs.length) && decide (rs.length ≤ 8)) = true := by simp [g1, g2]
   rw [e3]
   clear g1 g2 e3 hl
   refine goW ?_
   refine Bb (h' := H1) hH1 ?_
   refine goW ?_
   refine AA c1 ?_
   refine goW ?_
   refine AA hcon ?_
   refine goW ?_
   refine AL (by simp only [resRf, resRs, resR]; first | done | rfl) ⟨?_, p1⟩
   simp [AD, AB]
  ·have d2 : decide ((rs.length : Int) ≤ 8) = false := decide_eq_false (by omega)
   have e3 : (decide (1 ≤ rs.length) && decide (rs.length ≤ 8)) = false := by simp [g2]
   rw [e3]
   clear g1 g2 e3 hl
   refine goW ?_
   refine Bb (h' := H1) hH1 ?_
   refine goW ?_
   refine AA c1 ?_
   refine goW ?_
   refine AL (by simp only [resRf, resRs, resR]; first | done | rfl) ⟨?_, p1⟩
   simp [AD, AB]
 ·have d1 : decide ((rs.length : Int) ≥ 1) = false := decide_eq_false (by omega)
  have e3 : (decide (1 ≤ rs.length) && decide (rs.length ≤ 8)) = false := by simp [g1]
  rw [e3]
  clear g1 e3 hl
  refine goW ?_
  refine Bb (h' := H1) hH1 ?_
  refine goW ?_
  refine AA c1 ?_
  refine goW ?_
  refine AL (by simp only [resRf, resRs, resR]; first | done | rfl) ⟨?_, p1⟩
  simp [AD, AB]
structure Cfg where
 m : Int
 i : Int
 h : Int
 rows : List (List Int × Int)
 seed : Int
 total : Int
 interval : Int
 cutn : Int
 pert : Bool
abbrev BJ (c : Cfg) (rv : V) : List V := [.int .i64 c.m, .int .i64 c.i, .int .i64 c.h, rv, .int .i64 c.seed, .int .i64 c.total, .int .i64 c.interval, .int .i64 c.cutn, .bool c.pert]
def Al (c : Cfg) : Bool := within c.m 2 8 && Ct c.i c.h c.rows && within c.seed 0 65535 && within c.total 1 32 && within c.interval 1 8 && within c.cutn 1 (IntKind.i64.wrap (c.m.tdiv 2))
theorem Dw (H : Heap) (c : Cfg) (rv : V) (hr : Rows H rv c.rows) (hl : c.rows.length ≤ 2 ^ 47) (hxl : ∀ r ∈ c.rows, r.1.length ≤ 2 ^ 47) : Call Tryz.prog 49 [.agg (BJ c rv)] H (.bool (Al c)) H := by
 refine AJ fit mixed Tryz.func49 rfl rfl rfl (by kernel_rfl) rfl ?_
 obtain ⟨H1, hH1⟩ : ∃ H1, H ++ [.row (BJ c rv) true] = H1 := ⟨_, rfl⟩
 have p1 : H <+: H1 := by rw [← hH1]; exact List.prefix_append _ _
 have hg : H1[H.length]? = some (.row (BJ c rv) true) := by rw [← hH1]; simp
 have l0 := AU (q := 0) T3 rfl hg rfl
 have l3 := AU (q := 3) T24 rfl hg rfl
 have l4 := AU (q := 4) T3 rfl hg rfl
 have l5 := AU (q := 5) T3 rfl hg rfl
 have l6 := AU (q := 6) T3 rfl hg rfl
 have l7 := AU (q := 7) T3 rfl hg rfl
 have l1 : loadV T 23 H1 H.length 1 = some (.agg [.int .i64 c.i, .int .i64 c.h]) := by
  refine AZ T23 rfl ?_
  rw [← hH1, Ab]; rfl
 have c1 := Fe H1 c.m 2 8
 have c2 := Sk H1 c.i c.h rv c.rows (hr.mono p1) hl hxl
 have c3 := Lw H1 c.seed
 have c4 := Fe H1 c.total 1 32
 have c5 := Fe H1 c.interval 1 8
 have c6 := Fe H1 c.cutn 1 (IntKind.i64.wrap (c.m.tdiv 2))
 unfold Al
 obtain ⟨r1, e1⟩ : ∃ r, within c.m 2 8 = r := ⟨_, rfl⟩
 obtain ⟨r2, e2⟩ : ∃ r, Ct c.i c.h c.rows = r := ⟨_, rfl⟩
 obtain ⟨r3, e3⟩ : ∃ r, within c.seed 0 65535 = r := ⟨_, rfl⟩
 obtain ⟨r4, e4⟩ : ∃ r, within c.total 1 32 = r := ⟨_, rfl⟩
 obtain ⟨r5, e5⟩ : ∃ r, within c.interval 1 8 = r := ⟨_, rfl⟩
 rw [e1] at c1 ⊢
 rw [e2] at c2 ⊢
 rw [e3] at c3 ⊢
 rw [e4] at c4 ⊢
 rw [e5] at c5 ⊢
 clear e1 e2 e3 e4 e5 hr hl hxl hg
 refine goW ?_
 refine Bb (h' := H1) hH1 ?_
 refine goW ?_
 refine AA c1 ?_
 cases r1
 ·refine goW ?_
  refine AL (by simp only [resRf, resRs, resR]; first | done | rfl) ⟨?_, p1⟩
  simp [AD, AB]
 refine goW ?_
 refine AA c2 ?_
 cases r2
 ·refine goW ?_
  refine AL (by simp only [resRf, resRs, resR]; first | done | rfl) ⟨?_, p1⟩
  simp [AD, AB]
 refine goW ?_
 refine AA c3 ?_
 cases r3
 ·refine goW ?_
  refine AL (by simp only [resRf, resRs, resR]; first | done | rfl) ⟨?_, p1⟩
  simp [AD, AB]
 refine goW ?_
 refine AA c4 ?_
 cases r4
 ·refine goW ?_
  refine AL (by simp only [resRf, resRs, resR]; first | done | rfl) ⟨?_, p1⟩
  simp [AD, AB]
 refine goW ?_
 refine AA c5 ?_
 cases r5
 ·refine goW ?_
  refine AL (by simp only [resRf, resRs, resR]; first | done | rfl) ⟨?_, p1⟩
  simp [AD, AB]
 refine goW ?_
 refine AA c6 ?_
 refine goW ?_
 refine AL (by simp only [resRf, resRs, resR]; first | done | rfl) ⟨?_, p1⟩
 simp [AD, AB]
end Go.Proofs.YtncjbjlmgnjhiaaGreat.VM
