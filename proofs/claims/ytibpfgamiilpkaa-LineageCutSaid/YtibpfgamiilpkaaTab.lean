/- The table of the types of this seat, printed by mktab.py. -/
import Derived.Test.YtibpfgamiilpkaaVmQ
import Derived.Test.YtibpfgamiilpkaaRows
import Derived.KernelRfl
namespace Go.Proofs.Ytibpfgamiilpkaa.VM
open Go

def tabL : List (Option TI) := [
  none,
  none,
  some { k := .int .i64, size := 1, bytes := 8, zero := [.int .i64 0] },
  some { k := .int .i64, size := 1, bytes := 8, zero := [.int .i64 0] },
  some { k := .bool, size := 1, bytes := 1, zero := [.bool false] },
  some { k := .int .u8, size := 1, bytes := 1, zero := [.int .u8 0] },
  some { k := .int .u8, size := 1, bytes := 1, zero := [.int .u8 0] },
  some { k := .strct [(2, 0), (3, 1), (4, 2), (6, 3)], size := 4, bytes := 24, zero := [.int .i64 0, .int .i64 0, .bool false, .int .u8 0] },
  some { k := .strct [(2, 0), (3, 1), (4, 2), (6, 3)], size := 4, bytes := 24, zero := [.int .i64 0, .int .i64 0, .bool false, .int .u8 0] },
  some { k := .str, size := 1, bytes := 16, zero := [.str ByteArray.empty] },
  some { k := .str, size := 1, bytes := 16, zero := [.str ByteArray.empty] },
  some { k := .str, size := 1, bytes := 16, zero := [.str ByteArray.empty] },
  some { k := .int .u64, size := 1, bytes := 8, zero := [.int .u64 0] },
  some { k := .strct [(9, 0), (12, 1)], size := 2, bytes := 24, zero := [.str ByteArray.empty, .int .u64 0] },
  some { k := .strct [(9, 0), (12, 1)], size := 2, bytes := 24, zero := [.str ByteArray.empty, .int .u64 0] },
  some { k := .ptr, size := 1, bytes := 8, zero := [.nilp] },
  some { k := .ptr, size := 1, bytes := 8, zero := [.nilp] },
  some { k := .ptr, size := 1, bytes := 8, zero := [.nilp] },
  some { k := .strct [(17, 0)], size := 1, bytes := 8, zero := [.nilp] },
  some { k := .strct [(17, 0)], size := 1, bytes := 8, zero := [.nilp] },
  none,
  some { k := .int .i32, size := 1, bytes := 4, zero := [.int .i32 0] },
  some { k := .slice 34, size := 1, bytes := 24, zero := [.nils] },
  none,
  none,
  none,
  none,
  none,
  none,
  none,
  some { k := .int .u64, size := 1, bytes := 8, zero := [.int .u64 0] },
  some { k := .strct [(3, 0), (3, 1)], size := 2, bytes := 16, zero := [.int .i64 0, .int .i64 0] },
  some { k := .strct [(3, 0), (3, 1)], size := 2, bytes := 16, zero := [.int .i64 0, .int .i64 0], cmp := [.int, .int] },
  some { k := .strct [(3, 0), (3, 1), (3, 2), (3, 3), (32, 4)], size := 6, bytes := 48, zero := List.replicate 6 (.int .i64 0) },
  some { k := .strct [(3, 0), (3, 1), (3, 2), (3, 3), (32, 4)], size := 6, bytes := 48, zero := List.replicate 6 (.int .i64 0), cmp := [.int, .int, .int, .int, .int, .int] },
  none,
  some { k := .int .i64, size := 1, bytes := 8, zero := [.int .i64 0] },
  none,
  none,
  some { k := .ptr, size := 1, bytes := 8, zero := [.nilp] },
  some { k := .arr 8 3, size := 8, bytes := 64, zero := List.replicate 8 (.int .i64 0) },
  some { k := .strct [(40, 0), (40, 8)], size := 16, bytes := 128, zero := List.replicate 16 (.int .i64 0) },
  some { k := .strct [(40, 0), (40, 8)], size := 16, bytes := 128, zero := List.replicate 16 (.int .i64 0) },
  none,
  some { k := .ptr, size := 1, bytes := 8, zero := [.nilp] },
  none,
  none,
  none,
  none,
  none,
  some { k := .strct [(17, 0), (17, 1), (17, 2), (9, 3)], size := 4, bytes := 40, zero := [.nilp, .nilp, .nilp, .str ByteArray.empty] },
  some { k := .strct [(17, 0), (17, 1), (17, 2), (9, 3)], size := 4, bytes := 40, zero := [.nilp, .nilp, .nilp, .str ByteArray.empty] },
  some { k := .arr 0 16, size := 0, bytes := 0, zero := [] },
  some { k := .strct [(52, 0)], size := 0, bytes := 0, zero := [] },
  some { k := .strct [(52, 0)], size := 0, bytes := 0, zero := [] },
  none,
  some { k := .int .u32, size := 1, bytes := 4, zero := [.int .u32 0] },
  some { k := .int .u8, size := 1, bytes := 1, zero := [.int .u8 0] },
  some { k := .int .u8, size := 1, bytes := 1, zero := [.int .u8 0] },
  none,
  some { k := .ptr, size := 1, bytes := 8, zero := [.nilp] },
  some { k := .int .i32, size := 1, bytes := 4, zero := [.int .i32 0] },
  some { k := .int .i32, size := 1, bytes := 4, zero := [.int .i32 0] },
  none,
  none,
  none
]
def T : Tab := fun t => (tabL[t]?).join
set_option maxRecDepth 100000 in
theorem fit : Fits Try.prog T := fits_of rfl (by kernel_rfl)
theorem mixed : Try.prog.follows .mixedOrders = true := by kernel_rfl
theorem laidOut : laidOutB Try.prog = true := by kernel_rfl
theorem T2 : T 2 = some { k := .int .i64, size := 1, bytes := 8, zero := [.int .i64 0] } := rfl
theorem T3 : T 3 = some { k := .int .i64, size := 1, bytes := 8, zero := [.int .i64 0] } := rfl
theorem T4 : T 4 = some { k := .bool, size := 1, bytes := 1, zero := [.bool false] } := rfl
theorem T5 : T 5 = some { k := .int .u8, size := 1, bytes := 1, zero := [.int .u8 0] } := rfl
theorem T6 : T 6 = some { k := .int .u8, size := 1, bytes := 1, zero := [.int .u8 0] } := rfl
theorem T7 : T 7 = some { k := .strct [(2, 0), (3, 1), (4, 2), (6, 3)], size := 4, bytes := 24, zero := [.int .i64 0, .int .i64 0, .bool false, .int .u8 0] } := rfl
theorem T8 : T 8 = some { k := .strct [(2, 0), (3, 1), (4, 2), (6, 3)], size := 4, bytes := 24, zero := [.int .i64 0, .int .i64 0, .bool false, .int .u8 0] } := rfl
theorem T9 : T 9 = some { k := .str, size := 1, bytes := 16, zero := [.str ByteArray.empty] } := rfl
theorem T10 : T 10 = some { k := .str, size := 1, bytes := 16, zero := [.str ByteArray.empty] } := rfl
theorem T11 : T 11 = some { k := .str, size := 1, bytes := 16, zero := [.str ByteArray.empty] } := rfl
theorem T12 : T 12 = some { k := .int .u64, size := 1, bytes := 8, zero := [.int .u64 0] } := rfl
theorem T13 : T 13 = some { k := .strct [(9, 0), (12, 1)], size := 2, bytes := 24, zero := [.str ByteArray.empty, .int .u64 0] } := rfl
theorem T14 : T 14 = some { k := .strct [(9, 0), (12, 1)], size := 2, bytes := 24, zero := [.str ByteArray.empty, .int .u64 0] } := rfl
theorem T15 : T 15 = some { k := .ptr, size := 1, bytes := 8, zero := [.nilp] } := rfl
theorem T16 : T 16 = some { k := .ptr, size := 1, bytes := 8, zero := [.nilp] } := rfl
theorem T17 : T 17 = some { k := .ptr, size := 1, bytes := 8, zero := [.nilp] } := rfl
theorem T18 : T 18 = some { k := .strct [(17, 0)], size := 1, bytes := 8, zero := [.nilp] } := rfl
theorem T19 : T 19 = some { k := .strct [(17, 0)], size := 1, bytes := 8, zero := [.nilp] } := rfl
theorem T21 : T 21 = some { k := .int .i32, size := 1, bytes := 4, zero := [.int .i32 0] } := rfl
theorem T22 : T 22 = some { k := .slice 34, size := 1, bytes := 24, zero := [.nils] } := rfl
theorem T30 : T 30 = some { k := .int .u64, size := 1, bytes := 8, zero := [.int .u64 0] } := rfl
theorem T31 : T 31 = some { k := .strct [(3, 0), (3, 1)], size := 2, bytes := 16, zero := [.int .i64 0, .int .i64 0] } := rfl
theorem T32 : T 32 = some { k := .strct [(3, 0), (3, 1)], size := 2, bytes := 16, zero := [.int .i64 0, .int .i64 0], cmp := [.int, .int] } := rfl
theorem T33 : T 33 = some { k := .strct [(3, 0), (3, 1), (3, 2), (3, 3), (32, 4)], size := 6, bytes := 48, zero := List.replicate 6 (.int .i64 0) } := rfl
theorem T34 : T 34 = some { k := .strct [(3, 0), (3, 1), (3, 2), (3, 3), (32, 4)], size := 6, bytes := 48, zero := List.replicate 6 (.int .i64 0), cmp := [.int, .int, .int, .int, .int, .int] } := rfl
theorem T36 : T 36 = some { k := .int .i64, size := 1, bytes := 8, zero := [.int .i64 0] } := rfl
theorem T39 : T 39 = some { k := .ptr, size := 1, bytes := 8, zero := [.nilp] } := rfl
theorem T40 : T 40 = some { k := .arr 8 3, size := 8, bytes := 64, zero := List.replicate 8 (.int .i64 0) } := rfl
theorem T41 : T 41 = some { k := .strct [(40, 0), (40, 8)], size := 16, bytes := 128, zero := List.replicate 16 (.int .i64 0) } := rfl
theorem T42 : T 42 = some { k := .strct [(40, 0), (40, 8)], size := 16, bytes := 128, zero := List.replicate 16 (.int .i64 0) } := rfl
theorem T44 : T 44 = some { k := .ptr, size := 1, bytes := 8, zero := [.nilp] } := rfl
theorem T50 : T 50 = some { k := .strct [(17, 0), (17, 1), (17, 2), (9, 3)], size := 4, bytes := 40, zero := [.nilp, .nilp, .nilp, .str ByteArray.empty] } := rfl
theorem T51 : T 51 = some { k := .strct [(17, 0), (17, 1), (17, 2), (9, 3)], size := 4, bytes := 40, zero := [.nilp, .nilp, .nilp, .str ByteArray.empty] } := rfl
theorem T52 : T 52 = some { k := .arr 0 16, size := 0, bytes := 0, zero := [] } := rfl
theorem T53 : T 53 = some { k := .strct [(52, 0)], size := 0, bytes := 0, zero := [] } := rfl
theorem T54 : T 54 = some { k := .strct [(52, 0)], size := 0, bytes := 0, zero := [] } := rfl
theorem T56 : T 56 = some { k := .int .u32, size := 1, bytes := 4, zero := [.int .u32 0] } := rfl
theorem T57 : T 57 = some { k := .int .u8, size := 1, bytes := 1, zero := [.int .u8 0] } := rfl
theorem T58 : T 58 = some { k := .int .u8, size := 1, bytes := 1, zero := [.int .u8 0] } := rfl
theorem T60 : T 60 = some { k := .ptr, size := 1, bytes := 8, zero := [.nilp] } := rfl
theorem T61 : T 61 = some { k := .int .i32, size := 1, bytes := 4, zero := [.int .i32 0] } := rfl
theorem T62 : T 62 = some { k := .int .i32, size := 1, bytes := 4, zero := [.int .i32 0] } := rfl
end Go.Proofs.Ytibpfgamiilpkaa.VM
