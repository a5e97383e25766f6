/- The table of the types of this seat, printed by mktab.py. -/
import Derived.Test.YtjageapgbpdlhaaVmQ
import Derived.Test.YtjageapgbpdlhaaRows
import Derived.KernelRfl
namespace Go.Proofs.Ytjageapgbpdlhaa.VM
open Go

def tabL : List (Option TI) := [
  none,
  none,
  some { k := .int .i64, size := 1, bytes := 8, zero := [.int .i64 0] },
  some { k := .int .i64, size := 1, bytes := 8, zero := [.int .i64 0] },
  some { k := .bool, size := 1, bytes := 1, zero := [.bool false] },
  some { k := .int .u8, size := 1, bytes := 1, zero := [.int .u8 0] },
  some { k := .int .u8, size := 1, bytes := 1, zero := [.int .u8 0] },
  some { k := .strct [(2, 0), (3, 1), (4, 2), (6, 3)], size := 4, bytes := 24, zero := [.int .i64 0, .int .i64 0, .bool false, .int .u8 0] },
  some { k := .strct [(2, 0), (3, 1), (4, 2), (6, 3)], size := 4, bytes := 24, zero := [.int .i64 0, .int .i64 0, .bool false, .int .u8 0] },
  some { k := .str, size := 1, bytes := 16, zero := [.str ByteArray.empty] },
  some { k := .str, size := 1, bytes := 16, zero := [.str ByteArray.empty] },
  some { k := .str, size := 1, bytes := 16, zero := [.str ByteArray.empty] },
  some { k := .int .u64, size := 1, bytes := 8, zero := [.int .u64 0] },
  some { k := .strct [(9, 0), (12, 1)], size := 2, bytes := 24, zero := [.str ByteArray.empty, .int .u64 0] },
  some { k := .strct [(9, 0), (12, 1)], size := 2, bytes := 24, zero := [.str ByteArray.empty, .int .u64 0] },
  some { k := .ptr, size := 1, bytes := 8, zero := [.nilp] },
  some { k := .ptr, size := 1, bytes := 8, zero := [.nilp] },
  some { k := .ptr, size := 1, bytes := 8, zero := [.nilp] },
  some { k := .strct [(17, 0)], size := 1, bytes := 8, zero := [.nilp] },
  some { k := .strct [(17, 0)], size := 1, bytes := 8, zero := [.nilp] },
  none,
  some { k := .int .i32, size := 1, bytes := 4, zero := [.int .i32 0] },
  some { k := .strct [(3, 0), (3, 1)], size := 2, bytes := 16, zero := [.int .i64 0, .int .i64 0] },
  some { k := .strct [(3, 0), (3, 1)], size := 2, bytes := 16, zero := [.int .i64 0, .int .i64 0], cmp := [.int, .int] },
  some { k := .slice 3, size := 1, bytes := 24, zero := [.nils] },
  some { k := .strct [(24, 0), (3, 1)], size := 2, bytes := 32, zero := [.nils, .int .i64 0] },
  some { k := .strct [(24, 0), (3, 1)], size := 2, bytes := 32, zero := [.nils, .int .i64 0] },
  none,
  some { k := .slice 26, size := 1, bytes := 24, zero := [.nils] },
  none,
  some { k := .int .i64, size := 1, bytes := 8, zero := [.int .i64 0] },
  none,
  none,
  none,
  none,
  none,
  none,
  none,
  none,
  none,
  none,
  none,
  none,
  none,
  none,
  none,
  some { k := .int .u64, size := 1, bytes := 8, zero := [.int .u64 0] },
  none,
  none,
  none,
  none,
  some { k := .strct [(3, 0), (23, 1), (28, 3), (3, 4), (3, 5), (3, 6), (3, 7), (4, 8)], size := 9, bytes := 88, zero := [.int .i64 0, .int .i64 0, .int .i64 0, .nils, .int .i64 0, .int .i64 0, .int .i64 0, .int .i64 0, .bool false] },
  some { k := .strct [(3, 0), (23, 1), (28, 3), (3, 4), (3, 5), (3, 6), (3, 7), (4, 8)], size := 9, bytes := 88, zero := [.int .i64 0, .int .i64 0, .int .i64 0, .nils, .int .i64 0, .int .i64 0, .int .i64 0, .int .i64 0, .bool false] },
  some { k := .strct [(3, 0), (3, 1)], size := 2, bytes := 16, zero := [.int .i64 0, .int .i64 0] },
  some { k := .strct [(3, 0), (3, 1)], size := 2, bytes := 16, zero := [.int .i64 0, .int .i64 0], cmp := [.int, .int] },
  some { k := .strct [(24, 0), (24, 1), (54, 2), (3, 4)], size := 5, bytes := 72, zero := [.nils, .nils, .int .i64 0, .int .i64 0, .int .i64 0] },
  some { k := .strct [(24, 0), (24, 1), (54, 2), (3, 4)], size := 5, bytes := 72, zero := [.nils, .nils, .int .i64 0, .int .i64 0, .int .i64 0] },
  none,
  none,
  none,
  none,
  none,
  none,
  none,
  none,
  none,
  none,
  none,
  some { k := .strct [(56, 0), (3, 5)], size := 6, bytes := 80, zero := [.nils, .nils, .int .i64 0, .int .i64 0, .int .i64 0, .int .i64 0] },
  some { k := .strct [(56, 0), (3, 5)], size := 6, bytes := 80, zero := [.nils, .nils, .int .i64 0, .int .i64 0, .int .i64 0, .int .i64 0] },
  none,
  none,
  none,
  none,
  none,
  none,
  none,
  none,
  some { k := .ptr, size := 1, bytes := 8, zero := [.nilp] },
  none,
  none,
  none,
  none,
  none,
  none,
  none,
  none,
  none,
  none,
  none,
  none,
  none,
  some { k := .ptr, size := 1, bytes := 8, zero := [.nilp] },
  none,
  some { k := .ptr, size := 1, bytes := 8, zero := [.nilp] },
  none,
  none,
  none,
  none,
  none,
  none,
  none,
  none,
  none,
  none,
  none,
  none,
  none,
  none,
  none,
  some { k := .strct [(23, 0), (24, 2)], size := 3, bytes := 40, zero := [.int .i64 0, .int .i64 0, .nils] },
  some { k := .strct [(23, 0), (24, 2)], size := 3, bytes := 40, zero := [.int .i64 0, .int .i64 0, .nils] },
  none,
  none,
  none,
  none,
  none,
  none,
  none,
  none,
  none,
  none,
  some { k := .slice 24, size := 1, bytes := 24, zero := [.nils] },
  some { k := .slice 5, size := 1, bytes := 24, zero := [.nils] },
  none,
  none,
  none,
  none,
  some { k := .strct [(17, 0), (17, 1), (17, 2), (9, 3)], size := 4, bytes := 40, zero := [.nilp, .nilp, .nilp, .str ByteArray.empty] },
  some { k := .strct [(17, 0), (17, 1), (17, 2), (9, 3)], size := 4, bytes := 40, zero := [.nilp, .nilp, .nilp, .str ByteArray.empty] },
  some { k := .arr 0 16, size := 0, bytes := 0, zero := [] },
  some { k := .strct [(130, 0)], size := 0, bytes := 0, zero := [] },
  some { k := .strct [(130, 0)], size := 0, bytes := 0, zero := [] },
  none,
  some { k := .int .u32, size := 1, bytes := 4, zero := [.int .u32 0] },
  some { k := .int .u8, size := 1, bytes := 1, zero := [.int .u8 0] },
  some { k := .int .u8, size := 1, bytes := 1, zero := [.int .u8 0] },
  none,
  some { k := .ptr, size := 1, bytes := 8, zero := [.nilp] },
  some { k := .int .i32, size := 1, bytes := 4, zero := [.int .i32 0] },
  some { k := .int .i32, size := 1, bytes := 4, zero := [.int .i32 0] },
  none,
  none,
  none
]
def T : Tab := fun t => (tabL[t]?).join
set_option maxRecDepth 100000 in
theorem fit : Fits Try.prog T := fits_of rfl (by kernel_rfl)
theorem mixed : Try.prog.follows .mixedOrders = true := by kernel_rfl
theorem laidOut : laidOutB Try.prog = true := by kernel_rfl
theorem T2 : T 2 = some { k := .int .i64, size := 1, bytes := 8, zero := [.int .i64 0] } := rfl
theorem T3 : T 3 = some { k := .int .i64, size := 1, bytes := 8, zero := [.int .i64 0] } := rfl
theorem T4 : T 4 = some { k := .bool, size := 1, bytes := 1, zero := [.bool false] } := rfl
theorem T5 : T 5 = some { k := .int .u8, size := 1, bytes := 1, zero := [.int .u8 0] } := rfl
theorem T6 : T 6 = some { k := .int .u8, size := 1, bytes := 1, zero := [.int .u8 0] } := rfl
theorem T7 : T 7 = some { k := .strct [(2, 0), (3, 1), (4, 2), (6, 3)], size := 4, bytes := 24, zero := [.int .i64 0, .int .i64 0, .bool false, .int .u8 0] } := rfl
theorem T8 : T 8 = some { k := .strct [(2, 0), (3, 1), (4, 2), (6, 3)], size := 4, bytes := 24, zero := [.int .i64 0, .int .i64 0, .bool false, .int .u8 0] } := rfl
theorem T9 : T 9 = some { k := .str, size := 1, bytes := 16, zero := [.str ByteArray.empty] } := rfl
theorem T10 : T 10 = some { k := .str, size := 1, bytes := 16, zero := [.str ByteArray.empty] } := rfl
theorem T11 : T 11 = some { k := .str, size := 1, bytes := 16, zero := [.str ByteArray.empty] } := rfl
theorem T12 : T 12 = some { k := .int .u64, size := 1, bytes := 8, zero := [.int .u64 0] } := rfl
theorem T13 : T 13 = some { k := .strct [(9, 0), (12, 1)], size := 2, bytes := 24, zero := [.str ByteArray.empty, .int .u64 0] } := rfl
theorem T14 : T 14 = some { k := .strct [(9, 0), (12, 1)], size := 2, bytes := 24, zero := [.str ByteArray.empty, .int .u64 0] } := rfl
theorem T15 : T 15 = some { k := .ptr, size := 1, bytes := 8, zero := [.nilp] } := rfl
theorem T16 : T 16 = some { k := .ptr, size := 1, bytes := 8, zero := [.nilp] } := rfl
theorem T17 : T 17 = some { k := .ptr, size := 1, bytes := 8, zero := [.nilp] } := rfl
theorem T18 : T 18 = some { k := .strct [(17, 0)], size := 1, bytes := 8, zero := [.nilp] } := rfl
theorem T19 : T 19 = some { k := .strct [(17, 0)], size := 1, bytes := 8, zero := [.nilp] } := rfl
theorem T21 : T 21 = some { k := .int .i32, size := 1, bytes := 4, zero := [.int .i32 0] } := rfl
theorem T22 : T 22 = some { k := .strct [(3, 0), (3, 1)], size := 2, bytes := 16, zero := [.int .i64 0, .int .i64 0] } := rfl
theorem T23 : T 23 = some { k := .strct [(3, 0), (3, 1)], size := 2, bytes := 16, zero := [.int .i64 0, .int .i64 0], cmp := [.int, .int] } := rfl
theorem T24 : T 24 = some { k := .slice 3, size := 1, bytes := 24, zero := [.nils] } := rfl
theorem T25 : T 25 = some { k := .strct [(24, 0), (3, 1)], size := 2, bytes := 32, zero := [.nils, .int .i64 0] } := rfl
theorem T26 : T 26 = some { k := .strct [(24, 0), (3, 1)], size := 2, bytes := 32, zero := [.nils, .int .i64 0] } := rfl
theorem T28 : T 28 = some { k := .slice 26, size := 1, bytes := 24, zero := [.nils] } := rfl
theorem T30 : T 30 = some { k := .int .i64, size := 1, bytes := 8, zero := [.int .i64 0] } := rfl
theorem T46 : T 46 = some { k := .int .u64, size := 1, bytes := 8, zero := [.int .u64 0] } := rfl
theorem T51 : T 51 = some { k := .strct [(3, 0), (23, 1), (28, 3), (3, 4), (3, 5), (3, 6), (3, 7), (4, 8)], size := 9, bytes := 88, zero := [.int .i64 0, .int .i64 0, .int .i64 0, .nils, .int .i64 0, .int .i64 0, .int .i64 0, .int .i64 0, .bool false] } := rfl
theorem T52 : T 52 = some { k := .strct [(3, 0), (23, 1), (28, 3), (3, 4), (3, 5), (3, 6), (3, 7), (4, 8)], size := 9, bytes := 88, zero := [.int .i64 0, .int .i64 0, .int .i64 0, .nils, .int .i64 0, .int .i64 0, .int .i64 0, .int .i64 0, .bool false] } := rfl
theorem T53 : T 53 = some { k := .strct [(3, 0), (3, 1)], size := 2, bytes := 16, zero := [.int .i64 0, .int .i64 0] } := rfl
theorem T54 : T 54 = some { k := .strct [(3, 0), (3, 1)], size := 2, bytes := 16, zero := [.int .i64 0, .int .i64 0], cmp := [.int, .int] } := rfl
theorem T55 : T 55 = some { k := .strct [(24, 0), (24, 1), (54, 2), (3, 4)], size := 5, bytes := 72, zero := [.nils, .nils, .int .i64 0, .int .i64 0, .int .i64 0] } := rfl
theorem T56 : T 56 = some { k := .strct [(24, 0), (24, 1), (54, 2), (3, 4)], size := 5, bytes := 72, zero := [.nils, .nils, .int .i64 0, .int .i64 0, .int .i64 0] } := rfl
theorem T68 : T 68 = some { k := .strct [(56, 0), (3, 5)], size := 6, bytes := 80, zero := [.nils, .nils, .int .i64 0, .int .i64 0, .int .i64 0, .int .i64 0] } := rfl
theorem T69 : T 69 = some { k := .strct [(56, 0), (3, 5)], size := 6, bytes := 80, zero := [.nils, .nils, .int .i64 0, .int .i64 0, .int .i64 0, .int .i64 0] } := rfl
theorem T78 : T 78 = some { k := .ptr, size := 1, bytes := 8, zero := [.nilp] } := rfl
theorem T92 : T 92 = some { k := .ptr, size := 1, bytes := 8, zero := [.nilp] } := rfl
theorem T94 : T 94 = some { k := .ptr, size := 1, bytes := 8, zero := [.nilp] } := rfl
theorem T110 : T 110 = some { k := .strct [(23, 0), (24, 2)], size := 3, bytes := 40, zero := [.int .i64 0, .int .i64 0, .nils] } := rfl
theorem T111 : T 111 = some { k := .strct [(23, 0), (24, 2)], size := 3, bytes := 40, zero := [.int .i64 0, .int .i64 0, .nils] } := rfl
theorem T122 : T 122 = some { k := .slice 24, size := 1, bytes := 24, zero := [.nils] } := rfl
theorem T123 : T 123 = some { k := .slice 5, size := 1, bytes := 24, zero := [.nils] } := rfl
theorem T128 : T 128 = some { k := .strct [(17, 0), (17, 1), (17, 2), (9, 3)], size := 4, bytes := 40, zero := [.nilp, .nilp, .nilp, .str ByteArray.empty] } := rfl
theorem T129 : T 129 = some { k := .strct [(17, 0), (17, 1), (17, 2), (9, 3)], size := 4, bytes := 40, zero := [.nilp, .nilp, .nilp, .str ByteArray.empty] } := rfl
theorem T130 : T 130 = some { k := .arr 0 16, size := 0, bytes := 0, zero := [] } := rfl
theorem T131 : T 131 = some { k := .strct [(130, 0)], size := 0, bytes := 0, zero := [] } := rfl
theorem T132 : T 132 = some { k := .strct [(130, 0)], size := 0, bytes := 0, zero := [] } := rfl
theorem T134 : T 134 = some { k := .int .u32, size := 1, bytes := 4, zero := [.int .u32 0] } := rfl
theorem T135 : T 135 = some { k := .int .u8, size := 1, bytes := 1, zero := [.int .u8 0] } := rfl
theorem T136 : T 136 = some { k := .int .u8, size := 1, bytes := 1, zero := [.int .u8 0] } := rfl
theorem T138 : T 138 = some { k := .ptr, size := 1, bytes := 8, zero := [.nilp] } := rfl
theorem T139 : T 139 = some { k := .int .i32, size := 1, bytes := 4, zero := [.int .i32 0] } := rfl
theorem T140 : T 140 = some { k := .int .i32, size := 1, bytes := 4, zero := [.int .i32 0] } := rfl
end Go.Proofs.Ytjageapgbpdlhaa.VM
