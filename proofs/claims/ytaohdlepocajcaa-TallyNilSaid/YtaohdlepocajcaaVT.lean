import Derived.Test.YtaohdlepocajcaaV20
import Derived.Test.YtaohdlepocajcaaChecked
/-! The types of the program, as a table (printed by wip/gentblv.py out of the translation; the kernel checks each row). -/
namespace Go.Proofs.Ytaohdlepocajcaa.V
open Go
def row2 : TRow := ⟨.int .i64, 1, 8, .v (.int .i64 0)⟩
def row3 : TRow := ⟨.int .i64, 1, 8, .v (.int .i64 0)⟩
def row4 : TRow := ⟨.bool, 1, 1, .v (.bool false)⟩
def row5 : TRow := ⟨.int .u8, 1, 1, .v (.int .u8 0)⟩
def row22 : TRow := ⟨.int .u64, 1, 8, .v (.int .u64 0)⟩
def row23 : TRow := ⟨.sl 88, 1, 24, .v (.slice none 0 0)⟩
def row25 : TRow := ⟨.st [(0, 1, 23)], 1, 24, .agg (.cons (.v (.slice none 0 0)) .nil)⟩
def row31 : TRow := ⟨.ptr 67, 1, 8, .v (.pointer none)⟩
def row32 : TRow := ⟨.int .i64, 1, 8, .v (.int .i64 0)⟩
def row36 : TRow := ⟨.sl 43, 1, 24, .v (.slice none 0 0)⟩
def row38 : TRow := ⟨.arr 32 5, 32, 32, .ints .u8 32 (List.replicate 32 0)⟩
def row39 : TRow := ⟨.int .u64, 1, 8, .v (.int .u64 0)⟩
def row41 : TRow := ⟨.arr 16 5, 16, 16, .ints .u8 16 (List.replicate 16 0)⟩
def row43 : TRow := ⟨.st [(0, 1, 3), (1, 1, 22), (2, 1, 3), (3, 32, 38), (35, 1, 22), (36, 1, 39), (37, 16, 41)], 53, 88, .agg (.cons (.v (.int .i64 0)) (.cons (.v (.int .u64 0)) (.cons (.v (.int .i64 0)) (.cons (.ints .u8 32 (List.replicate 32 0)) (.cons (.v (.int .u64 0)) (.cons (.v (.int .u64 0)) (.cons (.ints .u8 16 (List.replicate 16 0)) .nil)))))))⟩
def row49 : TRow := ⟨.st [(0, 53, 43), (53, 53, 43)], 106, 176, .agg (.cons (.agg (.cons (.v (.int .i64 0)) (.cons (.v (.int .u64 0)) (.cons (.v (.int .i64 0)) (.cons (.ints .u8 32 (List.replicate 32 0)) (.cons (.v (.int .u64 0)) (.cons (.v (.int .u64 0)) (.cons (.ints .u8 16 (List.replicate 16 0)) .nil)))))))) (.cons (.agg (.cons (.v (.int .i64 0)) (.cons (.v (.int .u64 0)) (.cons (.v (.int .i64 0)) (.cons (.ints .u8 32 (List.replicate 32 0)) (.cons (.v (.int .u64 0)) (.cons (.v (.int .u64 0)) (.cons (.ints .u8 16 (List.replicate 16 0)) .nil)))))))) .nil))⟩
def row51 : TRow := ⟨.st [(0, 1, 4), (1, 1, 4), (2, 1, 4), (3, 1, 4), (4, 106, 49)], 110, 184, .agg (.cons (.v (.bool false)) (.cons (.v (.bool false)) (.cons (.v (.bool false)) (.cons (.v (.bool false)) (.cons (.agg (.cons (.agg (.cons (.v (.int .i64 0)) (.cons (.v (.int .u64 0)) (.cons (.v (.int .i64 0)) (.cons (.ints .u8 32 (List.replicate 32 0)) (.cons (.v (.int .u64 0)) (.cons (.v (.int .u64 0)) (.cons (.ints .u8 16 (List.replicate 16 0)) .nil)))))))) (.cons (.agg (.cons (.v (.int .i64 0)) (.cons (.v (.int .u64 0)) (.cons (.v (.int .i64 0)) (.cons (.ints .u8 32 (List.replicate 32 0)) (.cons (.v (.int .u64 0)) (.cons (.v (.int .u64 0)) (.cons (.ints .u8 16 (List.replicate 16 0)) .nil)))))))) .nil))) .nil)))))⟩
def row65 : TRow := ⟨.map 95 43, 1, 8, .v (.map none)⟩
def row67 : TRow := ⟨.st [(0, 1, 22), (1, 1, 25), (2, 1, 22), (3, 1, 22), (4, 1, 3), (5, 1, 65), (6, 1, 65)], 7, 72, .agg (.cons (.v (.int .u64 0)) (.cons (.agg (.cons (.v (.slice none 0 0)) .nil)) (.cons (.v (.int .u64 0)) (.cons (.v (.int .u64 0)) (.cons (.v (.int .i64 0)) (.cons (.v (.map none)) (.cons (.v (.map none)) .nil)))))))⟩
def row68 : TRow := ⟨.sl 31, 1, 24, .v (.slice none 0 0)⟩
def row69 : TRow := ⟨.sl 51, 1, 24, .v (.slice none 0 0)⟩
def row72 : TRow := ⟨.sl 115, 1, 24, .v (.slice none 0 0)⟩
def row74 : TRow := ⟨.st [(0, 1, 22), (1, 1, 3), (2, 32, 38), (34, 1, 72)], 35, 72, .agg (.cons (.v (.int .u64 0)) (.cons (.v (.int .i64 0)) (.cons (.ints .u8 32 (List.replicate 32 0)) (.cons (.v (.slice none 0 0)) .nil))))⟩
def row83 : TRow := ⟨.fn, 1, 8, .v .nilFunc⟩
def row88 : TRow := ⟨.st [(0, 1, 39), (1, 1, 22), (2, 1, 2)], 3, 24, .agg (.cons (.v (.int .u64 0)) (.cons (.v (.int .u64 0)) (.cons (.v (.int .i64 0)) .nil)))⟩
def row95 : TRow := ⟨.st [(0, 1, 3), (1, 1, 3), (2, 1, 3)], 3, 24, .agg (.cons (.v (.int .i64 0)) (.cons (.v (.int .i64 0)) (.cons (.v (.int .i64 0)) .nil)))⟩
def row115 : TRow := ⟨.st [(0, 1, 3), (1, 1, 22), (2, 16, 41)], 18, 32, .agg (.cons (.v (.int .i64 0)) (.cons (.v (.int .u64 0)) (.cons (.ints .u8 16 (List.replicate 16 0)) .nil)))⟩
def row124 : TRow := ⟨.fn, 1, 8, .v .nilFunc⟩
theorem row2_ok : RowOk Try.prog 2 row2 := ⟨by kernel_rfl, by kernel_rfl⟩
theorem row3_ok : RowOk Try.prog 3 row3 := ⟨by kernel_rfl, by kernel_rfl⟩
theorem row4_ok : RowOk Try.prog 4 row4 := ⟨by kernel_rfl, by kernel_rfl⟩
theorem row5_ok : RowOk Try.prog 5 row5 := ⟨by kernel_rfl, by kernel_rfl⟩
theorem row22_ok : RowOk Try.prog 22 row22 := ⟨by kernel_rfl, by kernel_rfl⟩
theorem row23_ok : RowOk Try.prog 23 row23 := ⟨by kernel_rfl, by kernel_rfl⟩
theorem row25_ok : RowOk Try.prog 25 row25 := ⟨by kernel_rfl, by kernel_rfl⟩
theorem row31_ok : RowOk Try.prog 31 row31 := ⟨by kernel_rfl, by kernel_rfl⟩
theorem row32_ok : RowOk Try.prog 32 row32 := ⟨by kernel_rfl, by kernel_rfl⟩
theorem row36_ok : RowOk Try.prog 36 row36 := ⟨by kernel_rfl, by kernel_rfl⟩
theorem row38_ok : RowOk Try.prog 38 row38 := ⟨by kernel_rfl, by kernel_rfl⟩
theorem row39_ok : RowOk Try.prog 39 row39 := ⟨by kernel_rfl, by kernel_rfl⟩
theorem row41_ok : RowOk Try.prog 41 row41 := ⟨by kernel_rfl, by kernel_rfl⟩
theorem row43_ok : RowOk Try.prog 43 row43 := ⟨by kernel_rfl, by kernel_rfl⟩
theorem row49_ok : RowOk Try.prog 49 row49 := ⟨by kernel_rfl, by kernel_rfl⟩
theorem row51_ok : RowOk Try.prog 51 row51 := ⟨by kernel_rfl, by kernel_rfl⟩
theorem row65_ok : RowOk Try.prog 65 row65 := ⟨by kernel_rfl, by kernel_rfl⟩
theorem row67_ok : RowOk Try.prog 67 row67 := ⟨by kernel_rfl, by kernel_rfl⟩
theorem row68_ok : RowOk Try.prog 68 row68 := ⟨by kernel_rfl, by kernel_rfl⟩
theorem row69_ok : RowOk Try.prog 69 row69 := ⟨by kernel_rfl, by kernel_rfl⟩
theorem row72_ok : RowOk Try.prog 72 row72 := ⟨by kernel_rfl, by kernel_rfl⟩
theorem row74_ok : RowOk Try.prog 74 row74 := ⟨by kernel_rfl, by kernel_rfl⟩
theorem row83_ok : RowOk Try.prog 83 row83 := ⟨by kernel_rfl, by kernel_rfl⟩
theorem row88_ok : RowOk Try.prog 88 row88 := ⟨by kernel_rfl, by kernel_rfl⟩
theorem row95_ok : RowOk Try.prog 95 row95 := ⟨by kernel_rfl, by kernel_rfl⟩
theorem row115_ok : RowOk Try.prog 115 row115 := ⟨by kernel_rfl, by kernel_rfl⟩
theorem row124_ok : RowOk Try.prog 124 row124 := ⟨by kernel_rfl, by kernel_rfl⟩
def tb : Tbl := [(2, row2), (3, row3), (4, row4), (5, row5), (22, row22), (23, row23), (25, row25), (31, row31), (32, row32), (36, row36), (38, row38), (39, row39), (41, row41), (43, row43), (49, row49), (51, row51), (65, row65), (67, row67), (68, row68), (69, row69), (72, row72), (74, row74), (83, row83), (88, row88), (95, row95), (115, row115), (124, row124)]
theorem tb_ok : TblOk Try.prog tb := ⟨row2_ok, row3_ok, row4_ok, row5_ok, row22_ok, row23_ok, row25_ok, row31_ok, row32_ok, row36_ok, row38_ok, row39_ok, row41_ok, row43_ok, row49_ok, row51_ok, row65_ok, row67_ok, row68_ok, row69_ok, row72_ok, row74_ok, row83_ok, row88_ok, row95_ok, row115_ok, row124_ok, trivial⟩
theorem eq37_ok : EqRow Try.prog 37 := ⟨by kernel_rfl, by kernel_rfl, by kernel_rfl⟩
theorem eq38_ok : EqRow Try.prog 38 := ⟨by kernel_rfl, by kernel_rfl, by kernel_rfl⟩
theorem eq40_ok : EqRow Try.prog 40 := ⟨by kernel_rfl, by kernel_rfl, by kernel_rfl⟩
theorem eq41_ok : EqRow Try.prog 41 := ⟨by kernel_rfl, by kernel_rfl, by kernel_rfl⟩
theorem eq43_ok : EqRow Try.prog 43 := ⟨by kernel_rfl, by kernel_rfl, by kernel_rfl⟩
theorem eq49_ok : EqRow Try.prog 49 := ⟨by kernel_rfl, by kernel_rfl, by kernel_rfl⟩
theorem eq51_ok : EqRow Try.prog 51 := ⟨by kernel_rfl, by kernel_rfl, by kernel_rfl⟩
theorem eq88_ok : EqRow Try.prog 88 := ⟨by kernel_rfl, by kernel_rfl, by kernel_rfl⟩
theorem eq95_ok : EqRow Try.prog 95 := ⟨by kernel_rfl, by kernel_rfl, by kernel_rfl⟩
theorem eq115_ok : EqRow Try.prog 115 := ⟨by kernel_rfl, by kernel_rfl, by kernel_rfl⟩
def eqs : List TypeId := [37, 38, 40, 41, 43, 49, 51, 88, 95, 115]
theorem eqs_ok : EqOk Try.prog eqs := ⟨eq37_ok, eq38_ok, eq40_ok, eq41_ok, eq43_ok, eq49_ok, eq51_ok, eq88_ok, eq95_ok, eq115_ok, trivial⟩
theorem mixed : Try.prog.follows .mixedOrders = true := by kernel_rfl
def tabs : Tabs Try.prog := ⟨tb, eqs, tb_ok, eqs_ok, mixed⟩
end Go.Proofs.Ytaohdlepocajcaa.V
