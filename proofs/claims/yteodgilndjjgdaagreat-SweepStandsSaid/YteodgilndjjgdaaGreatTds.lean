/- What the types of this seat are to the abstract machine. No condition. Printed by tds.py. -/
import Derived.Test.YteodgilndjjgdaaGreatProg
import Derived.Test.YteodgilndjjgdaaGreatGC
namespace Go.AM
open Go.Proofs
@[simp] theorem td1 : tdOf Tryz.prog 1 = .cell (.nilFunc) := by kernel_rfl
@[simp] theorem bt1 : Tryz.prog.bytesOf 1 = 8 := by kernel_rfl
@[simp] theorem td2 : tdOf Tryz.prog 2 = .cell (.int .i64 0) := by kernel_rfl
@[simp] theorem bt2 : Tryz.prog.bytesOf 2 = 8 := by kernel_rfl
@[simp] theorem td3 : tdOf Tryz.prog 3 = .cell (.int .i64 0) := by kernel_rfl
@[simp] theorem bt3 : Tryz.prog.bytesOf 3 = 8 := by kernel_rfl
@[simp] theorem td4 : tdOf Tryz.prog 4 = .cell (.bool false) := by kernel_rfl
@[simp] theorem bt4 : Tryz.prog.bytesOf 4 = 1 := by kernel_rfl
@[simp] theorem td5 : tdOf Tryz.prog 5 = .cell (.int .u8 0) := by kernel_rfl
@[simp] theorem bt5 : Tryz.prog.bytesOf 5 = 1 := by kernel_rfl
@[simp] theorem td6 : tdOf Tryz.prog 6 = .cell (.int .u8 0) := by kernel_rfl
@[simp] theorem bt6 : Tryz.prog.bytesOf 6 = 1 := by kernel_rfl
@[simp] theorem td7 : tdOf Tryz.prog 7 = .agg [.int .i64 0, .int .i64 0, .bool false, .int .u8 0] [(0, 1, 2), (1, 1, 3), (2, 1, 4), (3, 1, 6)] := by kernel_rfl
@[simp] theorem bt7 : Tryz.prog.bytesOf 7 = 24 := by kernel_rfl
@[simp] theorem td8 : tdOf Tryz.prog 8 = .agg [.int .i64 0, .int .i64 0, .bool false, .int .u8 0] [(0, 1, 2), (1, 1, 3), (2, 1, 4), (3, 1, 6)] := by kernel_rfl
@[simp] theorem bt8 : Tryz.prog.bytesOf 8 = 24 := by kernel_rfl
@[simp] theorem td9 : tdOf Tryz.prog 9 = .cell (.string ByteArray.empty) := by kernel_rfl
@[simp] theorem bt9 : Tryz.prog.bytesOf 9 = 16 := by kernel_rfl
@[simp] theorem td10 : tdOf Tryz.prog 10 = .cell (.string ByteArray.empty) := by kernel_rfl
@[simp] theorem bt10 : Tryz.prog.bytesOf 10 = 16 := by kernel_rfl
@[simp] theorem td11 : tdOf Tryz.prog 11 = .cell (.string ByteArray.empty) := by kernel_rfl
@[simp] theorem bt11 : Tryz.prog.bytesOf 11 = 16 := by kernel_rfl
@[simp] theorem td12 : tdOf Tryz.prog 12 = .cell (.int .u64 0) := by kernel_rfl
@[simp] theorem bt12 : Tryz.prog.bytesOf 12 = 8 := by kernel_rfl
@[simp] theorem td13 : tdOf Tryz.prog 13 = .agg [.string ByteArray.empty, .int .u64 0] [(0, 1, 9), (1, 1, 12)] := by kernel_rfl
@[simp] theorem bt13 : Tryz.prog.bytesOf 13 = 24 := by kernel_rfl
@[simp] theorem td14 : tdOf Tryz.prog 14 = .agg [.string ByteArray.empty, .int .u64 0] [(0, 1, 9), (1, 1, 12)] := by kernel_rfl
@[simp] theorem bt14 : Tryz.prog.bytesOf 14 = 24 := by kernel_rfl
@[simp] theorem td15 : tdOf Tryz.prog 15 = .cell (.pointer none) := by kernel_rfl
@[simp] theorem bt15 : Tryz.prog.bytesOf 15 = 8 := by kernel_rfl
@[simp] theorem td16 : tdOf Tryz.prog 16 = .cell (.pointer none) := by kernel_rfl
@[simp] theorem bt16 : Tryz.prog.bytesOf 16 = 8 := by kernel_rfl
@[simp] theorem td17 : tdOf Tryz.prog 17 = .cell (.pointer none) := by kernel_rfl
@[simp] theorem bt17 : Tryz.prog.bytesOf 17 = 8 := by kernel_rfl
@[simp] theorem td18 : tdOf Tryz.prog 18 = .agg [.pointer none] [(0, 1, 17)] := by kernel_rfl
@[simp] theorem bt18 : Tryz.prog.bytesOf 18 = 8 := by kernel_rfl
@[simp] theorem td19 : tdOf Tryz.prog 19 = .agg [.pointer none] [(0, 1, 17)] := by kernel_rfl
@[simp] theorem bt19 : Tryz.prog.bytesOf 19 = 8 := by kernel_rfl
@[simp] theorem td20 : tdOf Tryz.prog 20 = .cell (.nilIface) := by kernel_rfl
@[simp] theorem bt20 : Tryz.prog.bytesOf 20 = 16 := by kernel_rfl
@[simp] theorem td21 : tdOf Tryz.prog 21 = .cell (.int .i32 0) := by kernel_rfl
@[simp] theorem bt21 : Tryz.prog.bytesOf 21 = 4 := by kernel_rfl
@[simp] theorem td22 : tdOf Tryz.prog 22 = .slice 56 := by kernel_rfl
@[simp] theorem bt22 : Tryz.prog.bytesOf 22 = 24 := by kernel_rfl
@[simp] theorem td23 : tdOf Tryz.prog 23 = .slice 50 := by kernel_rfl
@[simp] theorem bt23 : Tryz.prog.bytesOf 23 = 24 := by kernel_rfl
@[simp] theorem td24 : tdOf Tryz.prog 24 = .agg [.slice none 0 0, .slice none 0 0] [(0, 1, 22), (1, 1, 23)] := by kernel_rfl
@[simp] theorem bt24 : Tryz.prog.bytesOf 24 = 48 := by kernel_rfl
@[simp] theorem td25 : tdOf Tryz.prog 25 = .agg [.slice none 0 0, .slice none 0 0] [(0, 1, 22), (1, 1, 23)] := by kernel_rfl
@[simp] theorem bt25 : Tryz.prog.bytesOf 25 = 48 := by kernel_rfl
@[simp] theorem td26 : tdOf Tryz.prog 26 = .slice 79 := by kernel_rfl
@[simp] theorem bt26 : Tryz.prog.bytesOf 26 = 24 := by kernel_rfl
@[simp] theorem td27 : tdOf Tryz.prog 27 = .agg [.int .i64 0, .int .i64 0] [(0, 1, 3), (1, 1, 3)] := by kernel_rfl
@[simp] theorem bt27 : Tryz.prog.bytesOf 27 = 16 := by kernel_rfl
@[simp] theorem td28 : tdOf Tryz.prog 28 = .agg [.int .i64 0, .int .i64 0] [(0, 1, 3), (1, 1, 3)] := by kernel_rfl
@[simp] theorem bt28 : Tryz.prog.bytesOf 28 = 16 := by kernel_rfl
@[simp] theorem td29 : tdOf Tryz.prog 29 = .cell (.nilFunc) := by kernel_rfl
@[simp] theorem bt29 : Tryz.prog.bytesOf 29 = 8 := by kernel_rfl
@[simp] theorem td30 : tdOf Tryz.prog 30 = .cell (.nilFunc) := by kernel_rfl
@[simp] theorem bt30 : Tryz.prog.bytesOf 30 = 8 := by kernel_rfl
@[simp] theorem td31 : tdOf Tryz.prog 31 = .cell (.nilFunc) := by kernel_rfl
@[simp] theorem bt31 : Tryz.prog.bytesOf 31 = 8 := by kernel_rfl
@[simp] theorem td32 : tdOf Tryz.prog 32 = .slice 43 := by kernel_rfl
@[simp] theorem bt32 : Tryz.prog.bytesOf 32 = 24 := by kernel_rfl
@[simp] theorem td33 : tdOf Tryz.prog 33 = .cell (.int .i64 0) := by kernel_rfl
@[simp] theorem bt33 : Tryz.prog.bytesOf 33 = 8 := by kernel_rfl
@[simp] theorem td35 : tdOf Tryz.prog 35 = .cell (.nilFunc) := by kernel_rfl
@[simp] theorem bt35 : Tryz.prog.bytesOf 35 = 8 := by kernel_rfl
@[simp] theorem td37 : tdOf Tryz.prog 37 = .cell (.nilFunc) := by kernel_rfl
@[simp] theorem bt37 : Tryz.prog.bytesOf 37 = 8 := by kernel_rfl
@[simp] theorem td38 : tdOf Tryz.prog 38 = .slice 45 := by kernel_rfl
@[simp] theorem bt38 : Tryz.prog.bytesOf 38 = 24 := by kernel_rfl
@[simp] theorem td40 : tdOf Tryz.prog 40 = .cell (.nilFunc) := by kernel_rfl
@[simp] theorem bt40 : Tryz.prog.bytesOf 40 = 8 := by kernel_rfl
@[simp] theorem td41 : tdOf Tryz.prog 41 = .slice 28 := by kernel_rfl
@[simp] theorem bt41 : Tryz.prog.bytesOf 41 = 24 := by kernel_rfl
@[simp] theorem td42 : tdOf Tryz.prog 42 = .agg [.int .i64 0, .int .i64 0, .int .i64 0] [(0, 1, 3), (1, 1, 3), (2, 1, 3)] := by kernel_rfl
@[simp] theorem bt42 : Tryz.prog.bytesOf 42 = 24 := by kernel_rfl
@[simp] theorem td43 : tdOf Tryz.prog 43 = .agg [.int .i64 0, .int .i64 0, .int .i64 0] [(0, 1, 3), (1, 1, 3), (2, 1, 3)] := by kernel_rfl
@[simp] theorem bt43 : Tryz.prog.bytesOf 43 = 24 := by kernel_rfl
@[simp] theorem td44 : tdOf Tryz.prog 44 = .agg [.int .i64 0, .int .i64 0, .int .i64 0, .int .i64 0] [(0, 1, 3), (1, 1, 3), (2, 1, 3), (3, 1, 3)] := by kernel_rfl
@[simp] theorem bt44 : Tryz.prog.bytesOf 44 = 32 := by kernel_rfl
@[simp] theorem td45 : tdOf Tryz.prog 45 = .agg [.int .i64 0, .int .i64 0, .int .i64 0, .int .i64 0] [(0, 1, 3), (1, 1, 3), (2, 1, 3), (3, 1, 3)] := by kernel_rfl
@[simp] theorem bt45 : Tryz.prog.bytesOf 45 = 32 := by kernel_rfl
@[simp] theorem td46 : tdOf Tryz.prog 46 = .cell (.nilFunc) := by kernel_rfl
@[simp] theorem bt46 : Tryz.prog.bytesOf 46 = 8 := by kernel_rfl
@[simp] theorem td47 : tdOf Tryz.prog 47 = .cell (.nilFunc) := by kernel_rfl
@[simp] theorem bt47 : Tryz.prog.bytesOf 47 = 8 := by kernel_rfl
@[simp] theorem td48 : tdOf Tryz.prog 48 = .slice 52 := by kernel_rfl
@[simp] theorem bt48 : Tryz.prog.bytesOf 48 = 24 := by kernel_rfl
@[simp] theorem td49 : tdOf Tryz.prog 49 = .agg [.int .i64 0, .int .i64 0, .slice none 0 0, .int .i64 0, .int .i64 0] [(0, 1, 3), (1, 1, 3), (2, 1, 48), (3, 1, 3), (4, 1, 3)] := by kernel_rfl
@[simp] theorem bt49 : Tryz.prog.bytesOf 49 = 56 := by kernel_rfl
@[simp] theorem td50 : tdOf Tryz.prog 50 = .agg [.int .i64 0, .int .i64 0, .slice none 0 0, .int .i64 0, .int .i64 0] [(0, 1, 3), (1, 1, 3), (2, 1, 48), (3, 1, 3), (4, 1, 3)] := by kernel_rfl
@[simp] theorem bt50 : Tryz.prog.bytesOf 50 = 56 := by kernel_rfl
@[simp] theorem td51 : tdOf Tryz.prog 51 = .agg [.int .i64 0, .int .i64 0] [(0, 1, 3), (1, 1, 3)] := by kernel_rfl
@[simp] theorem bt51 : Tryz.prog.bytesOf 51 = 16 := by kernel_rfl
@[simp] theorem td52 : tdOf Tryz.prog 52 = .agg [.int .i64 0, .int .i64 0] [(0, 1, 3), (1, 1, 3)] := by kernel_rfl
@[simp] theorem bt52 : Tryz.prog.bytesOf 52 = 16 := by kernel_rfl
@[simp] theorem td53 : tdOf Tryz.prog 53 = .cell (.int .i64 0) := by kernel_rfl
@[simp] theorem bt53 : Tryz.prog.bytesOf 53 = 8 := by kernel_rfl
@[simp] theorem td54 : tdOf Tryz.prog 54 = .slice 63 := by kernel_rfl
@[simp] theorem bt54 : Tryz.prog.bytesOf 54 = 24 := by kernel_rfl
@[simp] theorem td55 : tdOf Tryz.prog 55 = .agg [.int .i64 0, .int .i64 0, .int .i64 0, .slice none 0 0, .int .i64 0] [(0, 2, 52), (2, 1, 53), (3, 1, 54), (4, 1, 3)] := by kernel_rfl
@[simp] theorem bt55 : Tryz.prog.bytesOf 55 = 56 := by kernel_rfl
@[simp] theorem td56 : tdOf Tryz.prog 56 = .agg [.int .i64 0, .int .i64 0, .int .i64 0, .slice none 0 0, .int .i64 0] [(0, 2, 52), (2, 1, 53), (3, 1, 54), (4, 1, 3)] := by kernel_rfl
@[simp] theorem bt56 : Tryz.prog.bytesOf 56 = 56 := by kernel_rfl
@[simp] theorem td57 : tdOf Tryz.prog 57 = .cell (.nilFunc) := by kernel_rfl
@[simp] theorem bt57 : Tryz.prog.bytesOf 57 = 8 := by kernel_rfl
@[simp] theorem td58 : tdOf Tryz.prog 58 = .cell (.nilFunc) := by kernel_rfl
@[simp] theorem bt58 : Tryz.prog.bytesOf 58 = 8 := by kernel_rfl
@[simp] theorem td59 : tdOf Tryz.prog 59 = .cell (.nilFunc) := by kernel_rfl
@[simp] theorem bt59 : Tryz.prog.bytesOf 59 = 8 := by kernel_rfl
@[simp] theorem td60 : tdOf Tryz.prog 60 = .cell (.nilFunc) := by kernel_rfl
@[simp] theorem bt60 : Tryz.prog.bytesOf 60 = 8 := by kernel_rfl
@[simp] theorem td61 : tdOf Tryz.prog 61 = .cell (.nilFunc) := by kernel_rfl
@[simp] theorem bt61 : Tryz.prog.bytesOf 61 = 8 := by kernel_rfl
@[simp] theorem td62 : tdOf Tryz.prog 62 = .agg [.int .i64 0, .bool false] [(0, 1, 3), (1, 1, 4)] := by kernel_rfl
@[simp] theorem bt62 : Tryz.prog.bytesOf 62 = 16 := by kernel_rfl
@[simp] theorem td63 : tdOf Tryz.prog 63 = .agg [.int .i64 0, .bool false] [(0, 1, 3), (1, 1, 4)] := by kernel_rfl
@[simp] theorem bt63 : Tryz.prog.bytesOf 63 = 16 := by kernel_rfl
@[simp] theorem td64 : tdOf Tryz.prog 64 = .cell (.nilFunc) := by kernel_rfl
@[simp] theorem bt64 : Tryz.prog.bytesOf 64 = 8 := by kernel_rfl
@[simp] theorem td65 : tdOf Tryz.prog 65 = .cell (.nilFunc) := by kernel_rfl
@[simp] theorem bt65 : Tryz.prog.bytesOf 65 = 8 := by kernel_rfl
@[simp] theorem td67 : tdOf Tryz.prog 67 = .cell (.nilFunc) := by kernel_rfl
@[simp] theorem bt67 : Tryz.prog.bytesOf 67 = 8 := by kernel_rfl
@[simp] theorem td68 : tdOf Tryz.prog 68 = .agg [.int .i64 0, .int .i64 0] [(0, 1, 3), (1, 1, 3)] := by kernel_rfl
@[simp] theorem bt68 : Tryz.prog.bytesOf 68 = 16 := by kernel_rfl
@[simp] theorem td69 : tdOf Tryz.prog 69 = .agg [.int .i64 0, .int .i64 0] [(0, 1, 3), (1, 1, 3)] := by kernel_rfl
@[simp] theorem bt69 : Tryz.prog.bytesOf 69 = 16 := by kernel_rfl
@[simp] theorem td71 : tdOf Tryz.prog 71 = .cell (.nilFunc) := by kernel_rfl
@[simp] theorem bt71 : Tryz.prog.bytesOf 71 = 8 := by kernel_rfl
@[simp] theorem td72 : tdOf Tryz.prog 72 = .cell (.nilFunc) := by kernel_rfl
@[simp] theorem bt72 : Tryz.prog.bytesOf 72 = 8 := by kernel_rfl
@[simp] theorem td73 : tdOf Tryz.prog 73 = .cell (.pointer none) := by kernel_rfl
@[simp] theorem bt73 : Tryz.prog.bytesOf 73 = 8 := by kernel_rfl
@[simp] theorem td75 : tdOf Tryz.prog 75 = .cell (.nilFunc) := by kernel_rfl
@[simp] theorem bt75 : Tryz.prog.bytesOf 75 = 8 := by kernel_rfl
@[simp] theorem td76 : tdOf Tryz.prog 76 = .cell (.nilFunc) := by kernel_rfl
@[simp] theorem bt76 : Tryz.prog.bytesOf 76 = 8 := by kernel_rfl
@[simp] theorem td77 : tdOf Tryz.prog 77 = .cell (.nilFunc) := by kernel_rfl
@[simp] theorem bt77 : Tryz.prog.bytesOf 77 = 8 := by kernel_rfl
@[simp] theorem td78 : tdOf Tryz.prog 78 = .agg [.int .i64 0, .bool false] [(0, 1, 3), (1, 1, 4)] := by kernel_rfl
@[simp] theorem bt78 : Tryz.prog.bytesOf 78 = 16 := by kernel_rfl
@[simp] theorem td79 : tdOf Tryz.prog 79 = .agg [.int .i64 0, .bool false] [(0, 1, 3), (1, 1, 4)] := by kernel_rfl
@[simp] theorem bt79 : Tryz.prog.bytesOf 79 = 16 := by kernel_rfl
@[simp] theorem td80 : tdOf Tryz.prog 80 = .slice 3 := by kernel_rfl
@[simp] theorem bt80 : Tryz.prog.bytesOf 80 = 24 := by kernel_rfl
@[simp] theorem td81 : tdOf Tryz.prog 81 = .cell (.map none) := by kernel_rfl
@[simp] theorem bt81 : Tryz.prog.bytesOf 81 = 8 := by kernel_rfl
@[simp] theorem td82 : tdOf Tryz.prog 82 = .agg [.slice none 0 0, .slice none 0 0, .slice none 0 0, .map none] [(0, 2, 25), (2, 1, 80), (3, 1, 81)] := by kernel_rfl
@[simp] theorem bt82 : Tryz.prog.bytesOf 82 = 80 := by kernel_rfl
@[simp] theorem td83 : tdOf Tryz.prog 83 = .agg [.slice none 0 0, .slice none 0 0, .slice none 0 0, .map none] [(0, 2, 25), (2, 1, 80), (3, 1, 81)] := by kernel_rfl
@[simp] theorem bt83 : Tryz.prog.bytesOf 83 = 80 := by kernel_rfl
@[simp] theorem td84 : tdOf Tryz.prog 84 = .cell (.pointer none) := by kernel_rfl
@[simp] theorem bt84 : Tryz.prog.bytesOf 84 = 8 := by kernel_rfl
@[simp] theorem td86 : tdOf Tryz.prog 86 = .cell (.nilFunc) := by kernel_rfl
@[simp] theorem bt86 : Tryz.prog.bytesOf 86 = 8 := by kernel_rfl
@[simp] theorem td87 : tdOf Tryz.prog 87 = .cell (.nilFunc) := by kernel_rfl
@[simp] theorem bt87 : Tryz.prog.bytesOf 87 = 8 := by kernel_rfl
@[simp] theorem td88 : tdOf Tryz.prog 88 = .slice 94 := by kernel_rfl
@[simp] theorem bt88 : Tryz.prog.bytesOf 88 = 24 := by kernel_rfl
@[simp] theorem td90 : tdOf Tryz.prog 90 = .cell (.nilFunc) := by kernel_rfl
@[simp] theorem bt90 : Tryz.prog.bytesOf 90 = 8 := by kernel_rfl
@[simp] theorem td91 : tdOf Tryz.prog 91 = .agg [.int .i64 0, .int .i64 0, .int .i64 0, .int .i64 0] [(0, 2, 52), (2, 2, 52)] := by kernel_rfl
@[simp] theorem bt91 : Tryz.prog.bytesOf 91 = 32 := by kernel_rfl
@[simp] theorem td92 : tdOf Tryz.prog 92 = .agg [.int .i64 0, .int .i64 0, .int .i64 0, .int .i64 0] [(0, 2, 52), (2, 2, 52)] := by kernel_rfl
@[simp] theorem bt92 : Tryz.prog.bytesOf 92 = 32 := by kernel_rfl
@[simp] theorem td93 : tdOf Tryz.prog 93 = .agg [.int .i64 0, .int .i64 0, .int .i64 0, .int .i64 0, .int .i64 0, .int .i64 0, .slice none 0 0, .int .i64 0, .int .i64 0] [(0, 2, 69), (2, 4, 92), (6, 1, 48), (7, 1, 3), (8, 1, 3)] := by kernel_rfl
@[simp] theorem bt93 : Tryz.prog.bytesOf 93 = 88 := by kernel_rfl
@[simp] theorem td94 : tdOf Tryz.prog 94 = .agg [.int .i64 0, .int .i64 0, .int .i64 0, .int .i64 0, .int .i64 0, .int .i64 0, .slice none 0 0, .int .i64 0, .int .i64 0] [(0, 2, 69), (2, 4, 92), (6, 1, 48), (7, 1, 3), (8, 1, 3)] := by kernel_rfl
@[simp] theorem bt94 : Tryz.prog.bytesOf 94 = 88 := by kernel_rfl
@[simp] theorem td95 : tdOf Tryz.prog 95 = .cell (.nilFunc) := by kernel_rfl
@[simp] theorem bt95 : Tryz.prog.bytesOf 95 = 8 := by kernel_rfl
@[simp] theorem td96 : tdOf Tryz.prog 96 = .cell (.nilFunc) := by kernel_rfl
@[simp] theorem bt96 : Tryz.prog.bytesOf 96 = 8 := by kernel_rfl
@[simp] theorem td97 : tdOf Tryz.prog 97 = .cell (.nilFunc) := by kernel_rfl
@[simp] theorem bt97 : Tryz.prog.bytesOf 97 = 8 := by kernel_rfl
@[simp] theorem td98 : tdOf Tryz.prog 98 = .cell (.nilFunc) := by kernel_rfl
@[simp] theorem bt98 : Tryz.prog.bytesOf 98 = 8 := by kernel_rfl
@[simp] theorem td99 : tdOf Tryz.prog 99 = .cell (.nilFunc) := by kernel_rfl
@[simp] theorem bt99 : Tryz.prog.bytesOf 99 = 8 := by kernel_rfl
@[simp] theorem td100 : tdOf Tryz.prog 100 = .cell (.nilFunc) := by kernel_rfl
@[simp] theorem bt100 : Tryz.prog.bytesOf 100 = 8 := by kernel_rfl
@[simp] theorem td101 : tdOf Tryz.prog 101 = .cell (.nilFunc) := by kernel_rfl
@[simp] theorem bt101 : Tryz.prog.bytesOf 101 = 8 := by kernel_rfl
@[simp] theorem td102 : tdOf Tryz.prog 102 = .cell (.nilFunc) := by kernel_rfl
@[simp] theorem bt102 : Tryz.prog.bytesOf 102 = 8 := by kernel_rfl
@[simp] theorem td103 : tdOf Tryz.prog 103 = .cell (.nilFunc) := by kernel_rfl
@[simp] theorem bt103 : Tryz.prog.bytesOf 103 = 8 := by kernel_rfl
@[simp] theorem td104 : tdOf Tryz.prog 104 = .cell (.nilFunc) := by kernel_rfl
@[simp] theorem bt104 : Tryz.prog.bytesOf 104 = 8 := by kernel_rfl
@[simp] theorem td105 : tdOf Tryz.prog 105 = .slice 88 := by kernel_rfl
@[simp] theorem bt105 : Tryz.prog.bytesOf 105 = 24 := by kernel_rfl
@[simp] theorem td106 : tdOf Tryz.prog 106 = .agg [.slice none 0 0, .slice none 0 0, .slice none 0 0] [(0, 2, 25), (2, 1, 105)] := by kernel_rfl
@[simp] theorem bt106 : Tryz.prog.bytesOf 106 = 72 := by kernel_rfl
@[simp] theorem td107 : tdOf Tryz.prog 107 = .agg [.slice none 0 0, .slice none 0 0, .slice none 0 0] [(0, 2, 25), (2, 1, 105)] := by kernel_rfl
@[simp] theorem bt107 : Tryz.prog.bytesOf 107 = 72 := by kernel_rfl
@[simp] theorem td109 : tdOf Tryz.prog 109 = .cell (.nilFunc) := by kernel_rfl
@[simp] theorem bt109 : Tryz.prog.bytesOf 109 = 8 := by kernel_rfl
@[simp] theorem td110 : tdOf Tryz.prog 110 = .cell (.nilFunc) := by kernel_rfl
@[simp] theorem bt110 : Tryz.prog.bytesOf 110 = 8 := by kernel_rfl
@[simp] theorem td111 : tdOf Tryz.prog 111 = .agg [.int .i64 0, .int .i64 0] [(0, 1, 3), (1, 1, 3)] := by kernel_rfl
@[simp] theorem bt111 : Tryz.prog.bytesOf 111 = 16 := by kernel_rfl
@[simp] theorem td112 : tdOf Tryz.prog 112 = .agg [.int .i64 0, .int .i64 0] [(0, 1, 3), (1, 1, 3)] := by kernel_rfl
@[simp] theorem bt112 : Tryz.prog.bytesOf 112 = 16 := by kernel_rfl
@[simp] theorem td113 : tdOf Tryz.prog 113 = .cell (.nilFunc) := by kernel_rfl
@[simp] theorem bt113 : Tryz.prog.bytesOf 113 = 8 := by kernel_rfl
@[simp] theorem td114 : tdOf Tryz.prog 114 = .cell (.nilFunc) := by kernel_rfl
@[simp] theorem bt114 : Tryz.prog.bytesOf 114 = 8 := by kernel_rfl
@[simp] theorem td115 : tdOf Tryz.prog 115 = .cell (.nilFunc) := by kernel_rfl
@[simp] theorem bt115 : Tryz.prog.bytesOf 115 = 8 := by kernel_rfl
@[simp] theorem td116 : tdOf Tryz.prog 116 = .cell (.nilFunc) := by kernel_rfl
@[simp] theorem bt116 : Tryz.prog.bytesOf 116 = 8 := by kernel_rfl
@[simp] theorem td117 : tdOf Tryz.prog 117 = .slice 120 := by kernel_rfl
@[simp] theorem bt117 : Tryz.prog.bytesOf 117 = 24 := by kernel_rfl
@[simp] theorem td118 : tdOf Tryz.prog 118 = .cell (.nilFunc) := by kernel_rfl
@[simp] theorem bt118 : Tryz.prog.bytesOf 118 = 8 := by kernel_rfl
@[simp] theorem td119 : tdOf Tryz.prog 119 = .agg [.nilFunc] [(0, 1, 95)] := by kernel_rfl
@[simp] theorem bt119 : Tryz.prog.bytesOf 119 = 8 := by kernel_rfl
@[simp] theorem td120 : tdOf Tryz.prog 120 = .agg [.nilFunc] [(0, 1, 95)] := by kernel_rfl
@[simp] theorem bt120 : Tryz.prog.bytesOf 120 = 8 := by kernel_rfl
@[simp] theorem td121 : tdOf Tryz.prog 121 = .cell (.nilFunc) := by kernel_rfl
@[simp] theorem bt121 : Tryz.prog.bytesOf 121 = 8 := by kernel_rfl
@[simp] theorem td122 : tdOf Tryz.prog 122 = .cell (.nilFunc) := by kernel_rfl
@[simp] theorem bt122 : Tryz.prog.bytesOf 122 = 8 := by kernel_rfl
@[simp] theorem td123 : tdOf Tryz.prog 123 = .cell (.nilFunc) := by kernel_rfl
@[simp] theorem bt123 : Tryz.prog.bytesOf 123 = 8 := by kernel_rfl
@[simp] theorem td124 : tdOf Tryz.prog 124 = .cell (.nilFunc) := by kernel_rfl
@[simp] theorem bt124 : Tryz.prog.bytesOf 124 = 8 := by kernel_rfl
@[simp] theorem td125 : tdOf Tryz.prog 125 = .cell (.nilFunc) := by kernel_rfl
@[simp] theorem bt125 : Tryz.prog.bytesOf 125 = 8 := by kernel_rfl
@[simp] theorem td126 : tdOf Tryz.prog 126 = .cell (.nilFunc) := by kernel_rfl
@[simp] theorem bt126 : Tryz.prog.bytesOf 126 = 8 := by kernel_rfl
@[simp] theorem td127 : tdOf Tryz.prog 127 = .cell (.nilFunc) := by kernel_rfl
@[simp] theorem bt127 : Tryz.prog.bytesOf 127 = 8 := by kernel_rfl
@[simp] theorem td128 : tdOf Tryz.prog 128 = .cell (.nilFunc) := by kernel_rfl
@[simp] theorem bt128 : Tryz.prog.bytesOf 128 = 8 := by kernel_rfl
@[simp] theorem td129 : tdOf Tryz.prog 129 = .cell (.nilFunc) := by kernel_rfl
@[simp] theorem bt129 : Tryz.prog.bytesOf 129 = 8 := by kernel_rfl
@[simp] theorem td130 : tdOf Tryz.prog 130 = .cell (.nilFunc) := by kernel_rfl
@[simp] theorem bt130 : Tryz.prog.bytesOf 130 = 8 := by kernel_rfl
@[simp] theorem td131 : tdOf Tryz.prog 131 = .cell (.nilFunc) := by kernel_rfl
@[simp] theorem bt131 : Tryz.prog.bytesOf 131 = 8 := by kernel_rfl
@[simp] theorem td132 : tdOf Tryz.prog 132 = .cell (.map none) := by kernel_rfl
@[simp] theorem bt132 : Tryz.prog.bytesOf 132 = 8 := by kernel_rfl
@[simp] theorem td133 : tdOf Tryz.prog 133 = .cell (.nilFunc) := by kernel_rfl
@[simp] theorem bt133 : Tryz.prog.bytesOf 133 = 8 := by kernel_rfl
@[simp] theorem td134 : tdOf Tryz.prog 134 = .cell (.nilFunc) := by kernel_rfl
@[simp] theorem bt134 : Tryz.prog.bytesOf 134 = 8 := by kernel_rfl
@[simp] theorem td135 : tdOf Tryz.prog 135 = .cell (.nilFunc) := by kernel_rfl
@[simp] theorem bt135 : Tryz.prog.bytesOf 135 = 8 := by kernel_rfl
@[simp] theorem td136 : tdOf Tryz.prog 136 = .cell (.nilFunc) := by kernel_rfl
@[simp] theorem bt136 : Tryz.prog.bytesOf 136 = 8 := by kernel_rfl
@[simp] theorem td137 : tdOf Tryz.prog 137 = .cell (.nilFunc) := by kernel_rfl
@[simp] theorem bt137 : Tryz.prog.bytesOf 137 = 8 := by kernel_rfl
@[simp] theorem td138 : tdOf Tryz.prog 138 = .cell (.nilFunc) := by kernel_rfl
@[simp] theorem bt138 : Tryz.prog.bytesOf 138 = 8 := by kernel_rfl
@[simp] theorem td139 : tdOf Tryz.prog 139 = .cell (.nilFunc) := by kernel_rfl
@[simp] theorem bt139 : Tryz.prog.bytesOf 139 = 8 := by kernel_rfl
@[simp] theorem td140 : tdOf Tryz.prog 140 = .cell (.nilFunc) := by kernel_rfl
@[simp] theorem bt140 : Tryz.prog.bytesOf 140 = 8 := by kernel_rfl
@[simp] theorem td141 : tdOf Tryz.prog 141 = .cell (.nilFunc) := by kernel_rfl
@[simp] theorem bt141 : Tryz.prog.bytesOf 141 = 8 := by kernel_rfl
@[simp] theorem td142 : tdOf Tryz.prog 142 = .cell (.nilFunc) := by kernel_rfl
@[simp] theorem bt142 : Tryz.prog.bytesOf 142 = 8 := by kernel_rfl
@[simp] theorem td143 : tdOf Tryz.prog 143 = .arr [.int .i64 0, .int .i64 0, .int .i64 0, .int .i64 0, .int .i64 0, .int .i64 0, .int .i64 0] 7 3 := by kernel_rfl
@[simp] theorem bt143 : Tryz.prog.bytesOf 143 = 56 := by kernel_rfl
@[simp] theorem td144 : tdOf Tryz.prog 144 = .cell (.nilFunc) := by kernel_rfl
@[simp] theorem bt144 : Tryz.prog.bytesOf 144 = 8 := by kernel_rfl
@[simp] theorem td145 : tdOf Tryz.prog 145 = .cell (.nilFunc) := by kernel_rfl
@[simp] theorem bt145 : Tryz.prog.bytesOf 145 = 8 := by kernel_rfl
@[simp] theorem td146 : tdOf Tryz.prog 146 = .slice 48 := by kernel_rfl
@[simp] theorem bt146 : Tryz.prog.bytesOf 146 = 24 := by kernel_rfl
@[simp] theorem td147 : tdOf Tryz.prog 147 = .cell (.nilFunc) := by kernel_rfl
@[simp] theorem bt147 : Tryz.prog.bytesOf 147 = 8 := by kernel_rfl
@[simp] theorem td148 : tdOf Tryz.prog 148 = .cell (.float .f64 0) := by kernel_rfl
@[simp] theorem bt148 : Tryz.prog.bytesOf 148 = 8 := by kernel_rfl
@[simp] theorem td149 : tdOf Tryz.prog 149 = .cell (.nilFunc) := by kernel_rfl
@[simp] theorem bt149 : Tryz.prog.bytesOf 149 = 8 := by kernel_rfl
@[simp] theorem td150 : tdOf Tryz.prog 150 = .cell (.nilFunc) := by kernel_rfl
@[simp] theorem bt150 : Tryz.prog.bytesOf 150 = 8 := by kernel_rfl
@[simp] theorem td151 : tdOf Tryz.prog 151 = .agg [.int .i64 0, .int .i64 0, .int .i64 0, .slice none 0 0, .int .i64 0] [(0, 5, 56)] := by kernel_rfl
@[simp] theorem bt151 : Tryz.prog.bytesOf 151 = 56 := by kernel_rfl
@[simp] theorem td152 : tdOf Tryz.prog 152 = .agg [.int .i64 0, .int .i64 0, .int .i64 0, .slice none 0 0, .int .i64 0] [(0, 5, 56)] := by kernel_rfl
@[simp] theorem bt152 : Tryz.prog.bytesOf 152 = 56 := by kernel_rfl
@[simp] theorem td153 : tdOf Tryz.prog 153 = .cell (.nilFunc) := by kernel_rfl
@[simp] theorem bt153 : Tryz.prog.bytesOf 153 = 8 := by kernel_rfl
@[simp] theorem td154 : tdOf Tryz.prog 154 = .cell (.nilFunc) := by kernel_rfl
@[simp] theorem bt154 : Tryz.prog.bytesOf 154 = 8 := by kernel_rfl
@[simp] theorem td155 : tdOf Tryz.prog 155 = .cell (.nilFunc) := by kernel_rfl
@[simp] theorem bt155 : Tryz.prog.bytesOf 155 = 8 := by kernel_rfl
@[simp] theorem td156 : tdOf Tryz.prog 156 = .cell (.nilFunc) := by kernel_rfl
@[simp] theorem bt156 : Tryz.prog.bytesOf 156 = 8 := by kernel_rfl
@[simp] theorem td157 : tdOf Tryz.prog 157 = .cell (.nilFunc) := by kernel_rfl
@[simp] theorem bt157 : Tryz.prog.bytesOf 157 = 8 := by kernel_rfl
@[simp] theorem td158 : tdOf Tryz.prog 158 = .cell (.int .u64 0) := by kernel_rfl
@[simp] theorem bt158 : Tryz.prog.bytesOf 158 = 8 := by kernel_rfl
@[simp] theorem td159 : tdOf Tryz.prog 159 = .arr [.int .u64 0, .int .u64 0] 2 158 := by kernel_rfl
@[simp] theorem bt159 : Tryz.prog.bytesOf 159 = 16 := by kernel_rfl
@[simp] theorem td160 : tdOf Tryz.prog 160 = .arr [.int .u64 0, .int .u64 0] 2 158 := by kernel_rfl
@[simp] theorem bt160 : Tryz.prog.bytesOf 160 = 16 := by kernel_rfl
@[simp] theorem td161 : tdOf Tryz.prog 161 = .cell (.nilFunc) := by kernel_rfl
@[simp] theorem bt161 : Tryz.prog.bytesOf 161 = 8 := by kernel_rfl
@[simp] theorem td162 : tdOf Tryz.prog 162 = .cell (.nilFunc) := by kernel_rfl
@[simp] theorem bt162 : Tryz.prog.bytesOf 162 = 8 := by kernel_rfl
@[simp] theorem td163 : tdOf Tryz.prog 163 = .cell (.nilFunc) := by kernel_rfl
@[simp] theorem bt163 : Tryz.prog.bytesOf 163 = 8 := by kernel_rfl
@[simp] theorem td164 : tdOf Tryz.prog 164 = .arr [.nilFunc, .nilFunc, .nilFunc, .nilFunc, .nilFunc, .nilFunc, .nilFunc] 7 163 := by kernel_rfl
@[simp] theorem bt164 : Tryz.prog.bytesOf 164 = 56 := by kernel_rfl
@[simp] theorem td165 : tdOf Tryz.prog 165 = .cell (.nilFunc) := by kernel_rfl
@[simp] theorem bt165 : Tryz.prog.bytesOf 165 = 8 := by kernel_rfl
@[simp] theorem td166 : tdOf Tryz.prog 166 = .cell (.nilFunc) := by kernel_rfl
@[simp] theorem bt166 : Tryz.prog.bytesOf 166 = 8 := by kernel_rfl
@[simp] theorem td167 : tdOf Tryz.prog 167 = .cell (.int .u64 0) := by kernel_rfl
@[simp] theorem bt167 : Tryz.prog.bytesOf 167 = 8 := by kernel_rfl
@[simp] theorem td168 : tdOf Tryz.prog 168 = .cell (.nilFunc) := by kernel_rfl
@[simp] theorem bt168 : Tryz.prog.bytesOf 168 = 8 := by kernel_rfl
@[simp] theorem td170 : tdOf Tryz.prog 170 = .cell (.nilFunc) := by kernel_rfl
@[simp] theorem bt170 : Tryz.prog.bytesOf 170 = 8 := by kernel_rfl
@[simp] theorem td171 : tdOf Tryz.prog 171 = .cell (.nilFunc) := by kernel_rfl
@[simp] theorem bt171 : Tryz.prog.bytesOf 171 = 8 := by kernel_rfl
@[simp] theorem td172 : tdOf Tryz.prog 172 = .cell (.nilFunc) := by kernel_rfl
@[simp] theorem bt172 : Tryz.prog.bytesOf 172 = 8 := by kernel_rfl
@[simp] theorem td173 : tdOf Tryz.prog 173 = .cell (.nilFunc) := by kernel_rfl
@[simp] theorem bt173 : Tryz.prog.bytesOf 173 = 8 := by kernel_rfl
@[simp] theorem td174 : tdOf Tryz.prog 174 = .cell (.int .i64 0) := by kernel_rfl
@[simp] theorem bt174 : Tryz.prog.bytesOf 174 = 8 := by kernel_rfl
@[simp] theorem td176 : tdOf Tryz.prog 176 = .cell (.nilFunc) := by kernel_rfl
@[simp] theorem bt176 : Tryz.prog.bytesOf 176 = 8 := by kernel_rfl
@[simp] theorem td177 : tdOf Tryz.prog 177 = .cell (.nilFunc) := by kernel_rfl
@[simp] theorem bt177 : Tryz.prog.bytesOf 177 = 8 := by kernel_rfl
@[simp] theorem td178 : tdOf Tryz.prog 178 = .cell (.nilFunc) := by kernel_rfl
@[simp] theorem bt178 : Tryz.prog.bytesOf 178 = 8 := by kernel_rfl
@[simp] theorem td180 : tdOf Tryz.prog 180 = .cell (.nilFunc) := by kernel_rfl
@[simp] theorem bt180 : Tryz.prog.bytesOf 180 = 8 := by kernel_rfl
@[simp] theorem td181 : tdOf Tryz.prog 181 = .cell (.nilFunc) := by kernel_rfl
@[simp] theorem bt181 : Tryz.prog.bytesOf 181 = 8 := by kernel_rfl
@[simp] theorem td182 : tdOf Tryz.prog 182 = .cell (.int .u32 0) := by kernel_rfl
@[simp] theorem bt182 : Tryz.prog.bytesOf 182 = 4 := by kernel_rfl
@[simp] theorem td183 : tdOf Tryz.prog 183 = .cell (.nilFunc) := by kernel_rfl
@[simp] theorem bt183 : Tryz.prog.bytesOf 183 = 8 := by kernel_rfl
@[simp] theorem td184 : tdOf Tryz.prog 184 = .cell (.nilFunc) := by kernel_rfl
@[simp] theorem bt184 : Tryz.prog.bytesOf 184 = 8 := by kernel_rfl
@[simp] theorem td185 : tdOf Tryz.prog 185 = .cell (.int .u64 0) := by kernel_rfl
@[simp] theorem bt185 : Tryz.prog.bytesOf 185 = 8 := by kernel_rfl
@[simp] theorem td186 : tdOf Tryz.prog 186 = .cell (.nilFunc) := by kernel_rfl
@[simp] theorem bt186 : Tryz.prog.bytesOf 186 = 8 := by kernel_rfl
@[simp] theorem td187 : tdOf Tryz.prog 187 = .cell (.nilFunc) := by kernel_rfl
@[simp] theorem bt187 : Tryz.prog.bytesOf 187 = 8 := by kernel_rfl
@[simp] theorem td188 : tdOf Tryz.prog 188 = .cell (.nilFunc) := by kernel_rfl
@[simp] theorem bt188 : Tryz.prog.bytesOf 188 = 8 := by kernel_rfl
@[simp] theorem td189 : tdOf Tryz.prog 189 = .cell (.pointer none) := by kernel_rfl
@[simp] theorem bt189 : Tryz.prog.bytesOf 189 = 8 := by kernel_rfl
@[simp] theorem td190 : tdOf Tryz.prog 190 = .cell (.nilFunc) := by kernel_rfl
@[simp] theorem bt190 : Tryz.prog.bytesOf 190 = 8 := by kernel_rfl
@[simp] theorem td191 : tdOf Tryz.prog 191 = .cell (.pointer none) := by kernel_rfl
@[simp] theorem bt191 : Tryz.prog.bytesOf 191 = 8 := by kernel_rfl
@[simp] theorem td193 : tdOf Tryz.prog 193 = .cell (.nilFunc) := by kernel_rfl
@[simp] theorem bt193 : Tryz.prog.bytesOf 193 = 8 := by kernel_rfl
@[simp] theorem td194 : tdOf Tryz.prog 194 = .cell (.nilFunc) := by kernel_rfl
@[simp] theorem bt194 : Tryz.prog.bytesOf 194 = 8 := by kernel_rfl
@[simp] theorem td195 : tdOf Tryz.prog 195 = .agg [.pointer none, .pointer none, .pointer none, .string ByteArray.empty] [(0, 1, 17), (1, 1, 17), (2, 1, 17), (3, 1, 9)] := by kernel_rfl
@[simp] theorem bt195 : Tryz.prog.bytesOf 195 = 40 := by kernel_rfl
@[simp] theorem td196 : tdOf Tryz.prog 196 = .agg [.pointer none, .pointer none, .pointer none, .string ByteArray.empty] [(0, 1, 17), (1, 1, 17), (2, 1, 17), (3, 1, 9)] := by kernel_rfl
@[simp] theorem bt196 : Tryz.prog.bytesOf 196 = 40 := by kernel_rfl
@[simp] theorem td197 : tdOf Tryz.prog 197 = .arr [] 0 16 := by kernel_rfl
@[simp] theorem bt197 : Tryz.prog.bytesOf 197 = 0 := by kernel_rfl
@[simp] theorem td198 : tdOf Tryz.prog 198 = .agg [] [(0, 0, 197)] := by kernel_rfl
@[simp] theorem bt198 : Tryz.prog.bytesOf 198 = 0 := by kernel_rfl
@[simp] theorem td199 : tdOf Tryz.prog 199 = .agg [] [(0, 0, 197)] := by kernel_rfl
@[simp] theorem bt199 : Tryz.prog.bytesOf 199 = 0 := by kernel_rfl
@[simp] theorem td200 : tdOf Tryz.prog 200 = .cell (.nilFunc) := by kernel_rfl
@[simp] theorem bt200 : Tryz.prog.bytesOf 200 = 8 := by kernel_rfl
@[simp] theorem td201 : tdOf Tryz.prog 201 = .cell (.int .u8 0) := by kernel_rfl
@[simp] theorem bt201 : Tryz.prog.bytesOf 201 = 1 := by kernel_rfl
@[simp] theorem td202 : tdOf Tryz.prog 202 = .cell (.int .u8 0) := by kernel_rfl
@[simp] theorem bt202 : Tryz.prog.bytesOf 202 = 1 := by kernel_rfl
@[simp] theorem td203 : tdOf Tryz.prog 203 = .cell (.nilFunc) := by kernel_rfl
@[simp] theorem bt203 : Tryz.prog.bytesOf 203 = 8 := by kernel_rfl
@[simp] theorem td204 : tdOf Tryz.prog 204 = .cell (.pointer none) := by kernel_rfl
@[simp] theorem bt204 : Tryz.prog.bytesOf 204 = 8 := by kernel_rfl
@[simp] theorem td205 : tdOf Tryz.prog 205 = .cell (.int .i32 0) := by kernel_rfl
@[simp] theorem bt205 : Tryz.prog.bytesOf 205 = 4 := by kernel_rfl
@[simp] theorem td206 : tdOf Tryz.prog 206 = .cell (.int .i32 0) := by kernel_rfl
@[simp] theorem bt206 : Tryz.prog.bytesOf 206 = 4 := by kernel_rfl
@[simp] theorem td207 : tdOf Tryz.prog 207 = .agg [.int .u64 0, .int .u64 0, .int .u32 0, .int .u8 0, .int .u8 0, .int .u8 0, .int .u8 0, .nilFunc, .pointer none, .int .i32 0, .int .i32 0] [(0, 1, 12), (1, 1, 12), (2, 1, 182), (3, 1, 201), (4, 1, 5), (5, 1, 5), (6, 1, 202), (7, 1, 203), (8, 1, 204), (9, 1, 205), (10, 1, 206)] := by kernel_rfl
@[simp] theorem bt207 : Tryz.prog.bytesOf 207 = 48 := by kernel_rfl
@[simp] theorem td208 : tdOf Tryz.prog 208 = .agg [.int .u64 0, .int .u64 0, .int .u32 0, .int .u8 0, .int .u8 0, .int .u8 0, .int .u8 0, .nilFunc, .pointer none, .int .i32 0, .int .i32 0] [(0, 1, 12), (1, 1, 12), (2, 1, 182), (3, 1, 201), (4, 1, 5), (5, 1, 5), (6, 1, 202), (7, 1, 203), (8, 1, 204), (9, 1, 205), (10, 1, 206)] := by kernel_rfl
@[simp] theorem bt208 : Tryz.prog.bytesOf 208 = 48 := by kernel_rfl
@[simp] theorem td209 : tdOf Tryz.prog 209 = .cell (.nilFunc) := by kernel_rfl
@[simp] theorem bt209 : Tryz.prog.bytesOf 209 = 8 := by kernel_rfl
@[simp] theorem td210 : tdOf Tryz.prog 210 = .cell (.pointer none) := by kernel_rfl
@[simp] theorem bt210 : Tryz.prog.bytesOf 210 = 8 := by kernel_rfl
@[simp] theorem td211 : tdOf Tryz.prog 211 = .cell (.nilFunc) := by kernel_rfl
@[simp] theorem bt211 : Tryz.prog.bytesOf 211 = 8 := by kernel_rfl
@[simp] theorem td212 : tdOf Tryz.prog 212 = .cell (.nilFunc) := by kernel_rfl
@[simp] theorem bt212 : Tryz.prog.bytesOf 212 = 8 := by kernel_rfl
@[simp] theorem kt2 : ktOf Tryz.prog 2 = some (.i .i64) := by kernel_rfl
@[simp] theorem kt3 : ktOf Tryz.prog 3 = some (.i .i64) := by kernel_rfl
@[simp] theorem kt4 : ktOf Tryz.prog 4 = some (.b) := by kernel_rfl
@[simp] theorem kt5 : ktOf Tryz.prog 5 = some (.i .u8) := by kernel_rfl
@[simp] theorem kt6 : ktOf Tryz.prog 6 = some (.i .u8) := by kernel_rfl
@[simp] theorem sk7 : skOf Tryz.prog 7 = some [.i .i64, .i .i64, .b, .i .u8] := by kernel_rfl
@[simp] theorem sk8 : skOf Tryz.prog 8 = some [.i .i64, .i .i64, .b, .i .u8] := by kernel_rfl
@[simp] theorem kt12 : ktOf Tryz.prog 12 = some (.i .u64) := by kernel_rfl
@[simp] theorem kt21 : ktOf Tryz.prog 21 = some (.i .i32) := by kernel_rfl
@[simp] theorem sk27 : skOf Tryz.prog 27 = some [.i .i64, .i .i64] := by kernel_rfl
@[simp] theorem sk28 : skOf Tryz.prog 28 = some [.i .i64, .i .i64] := by kernel_rfl
@[simp] theorem kt33 : ktOf Tryz.prog 33 = some (.i .i64) := by kernel_rfl
@[simp] theorem sk42 : skOf Tryz.prog 42 = some [.i .i64, .i .i64, .i .i64] := by kernel_rfl
@[simp] theorem sk43 : skOf Tryz.prog 43 = some [.i .i64, .i .i64, .i .i64] := by kernel_rfl
@[simp] theorem sk44 : skOf Tryz.prog 44 = some [.i .i64, .i .i64, .i .i64, .i .i64] := by kernel_rfl
@[simp] theorem sk45 : skOf Tryz.prog 45 = some [.i .i64, .i .i64, .i .i64, .i .i64] := by kernel_rfl
@[simp] theorem sk51 : skOf Tryz.prog 51 = some [.i .i64, .i .i64] := by kernel_rfl
@[simp] theorem sk52 : skOf Tryz.prog 52 = some [.i .i64, .i .i64] := by kernel_rfl
@[simp] theorem kt53 : ktOf Tryz.prog 53 = some (.i .i64) := by kernel_rfl
@[simp] theorem sk62 : skOf Tryz.prog 62 = some [.i .i64, .b] := by kernel_rfl
@[simp] theorem sk63 : skOf Tryz.prog 63 = some [.i .i64, .b] := by kernel_rfl
@[simp] theorem sk68 : skOf Tryz.prog 68 = some [.i .i64, .i .i64] := by kernel_rfl
@[simp] theorem sk69 : skOf Tryz.prog 69 = some [.i .i64, .i .i64] := by kernel_rfl
@[simp] theorem sk78 : skOf Tryz.prog 78 = some [.i .i64, .b] := by kernel_rfl
@[simp] theorem sk79 : skOf Tryz.prog 79 = some [.i .i64, .b] := by kernel_rfl
@[simp] theorem mk81 : mkOf Tryz.prog 81 = some (true, [.i .i64, .b], .int .i64 0) := by kernel_rfl
@[simp] theorem sk111 : skOf Tryz.prog 111 = some [.i .i64, .i .i64] := by kernel_rfl
@[simp] theorem sk112 : skOf Tryz.prog 112 = some [.i .i64, .i .i64] := by kernel_rfl
@[simp] theorem mk132 : mkOf Tryz.prog 132 = some (true, [.i .i64, .b], .bool false) := by kernel_rfl
@[simp] theorem kt158 : ktOf Tryz.prog 158 = some (.i .u64) := by kernel_rfl
@[simp] theorem kt167 : ktOf Tryz.prog 167 = some (.i .u64) := by kernel_rfl
@[simp] theorem kt174 : ktOf Tryz.prog 174 = some (.i .i64) := by kernel_rfl
@[simp] theorem kt182 : ktOf Tryz.prog 182 = some (.i .u32) := by kernel_rfl
@[simp] theorem kt185 : ktOf Tryz.prog 185 = some (.i .u64) := by kernel_rfl
@[simp] theorem kt201 : ktOf Tryz.prog 201 = some (.i .u8) := by kernel_rfl
@[simp] theorem kt202 : ktOf Tryz.prog 202 = some (.i .u8) := by kernel_rfl
@[simp] theorem kt205 : ktOf Tryz.prog 205 = some (.i .i32) := by kernel_rfl
@[simp] theorem kt206 : ktOf Tryz.prog 206 = some (.i .i32) := by kernel_rfl
theorem mixed : Tryz.prog.follows .mixedOrders = true := by kernel_rfl
end Go.AM
