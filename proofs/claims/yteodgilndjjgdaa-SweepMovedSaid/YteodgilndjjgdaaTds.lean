/- What the types of this seat are to the abstract machine. No condition. Printed by tds.py. -/
import Derived.Test.YteodgilndjjgdaaProg
import Derived.Test.YteodgilndjjgdaaGC
namespace Go.AM
open Go.Proofs
@[simp] theorem td1 : tdOf Try.prog 1 = .cell (.nilFunc) := by kernel_rfl
@[simp] theorem bt1 : Try.prog.bytesOf 1 = 8 := by kernel_rfl
@[simp] theorem td2 : tdOf Try.prog 2 = .cell (.int .i64 0) := by kernel_rfl
@[simp] theorem bt2 : Try.prog.bytesOf 2 = 8 := by kernel_rfl
@[simp] theorem td3 : tdOf Try.prog 3 = .cell (.int .i64 0) := by kernel_rfl
@[simp] theorem bt3 : Try.prog.bytesOf 3 = 8 := by kernel_rfl
@[simp] theorem td4 : tdOf Try.prog 4 = .cell (.bool false) := by kernel_rfl
@[simp] theorem bt4 : Try.prog.bytesOf 4 = 1 := by kernel_rfl
@[simp] theorem td5 : tdOf Try.prog 5 = .cell (.int .u8 0) := by kernel_rfl
@[simp] theorem bt5 : Try.prog.bytesOf 5 = 1 := by kernel_rfl
@[simp] theorem td6 : tdOf Try.prog 6 = .cell (.int .u8 0) := by kernel_rfl
@[simp] theorem bt6 : Try.prog.bytesOf 6 = 1 := by kernel_rfl
@[simp] theorem td7 : tdOf Try.prog 7 = .agg [.int .i64 0, .int .i64 0, .bool false, .int .u8 0] [(0, 1, 2), (1, 1, 3), (2, 1, 4), (3, 1, 6)] := by kernel_rfl
@[simp] theorem bt7 : Try.prog.bytesOf 7 = 24 := by kernel_rfl
@[simp] theorem td8 : tdOf Try.prog 8 = .agg [.int .i64 0, .int .i64 0, .bool false, .int .u8 0] [(0, 1, 2), (1, 1, 3), (2, 1, 4), (3, 1, 6)] := by kernel_rfl
@[simp] theorem bt8 : Try.prog.bytesOf 8 = 24 := by kernel_rfl
@[simp] theorem td9 : tdOf Try.prog 9 = .cell (.string ByteArray.empty) := by kernel_rfl
@[simp] theorem bt9 : Try.prog.bytesOf 9 = 16 := by kernel_rfl
@[simp] theorem td10 : tdOf Try.prog 10 = .cell (.string ByteArray.empty) := by kernel_rfl
@[simp] theorem bt10 : Try.prog.bytesOf 10 = 16 := by kernel_rfl
@[simp] theorem td11 : tdOf Try.prog 11 = .cell (.string ByteArray.empty) := by kernel_rfl
@[simp] theorem bt11 : Try.prog.bytesOf 11 = 16 := by kernel_rfl
@[simp] theorem td12 : tdOf Try.prog 12 = .cell (.int .u64 0) := by kernel_rfl
@[simp] theorem bt12 : Try.prog.bytesOf 12 = 8 := by kernel_rfl
@[simp] theorem td13 : tdOf Try.prog 13 = .agg [.string ByteArray.empty, .int .u64 0] [(0, 1, 9), (1, 1, 12)] := by kernel_rfl
@[simp] theorem bt13 : Try.prog.bytesOf 13 = 24 := by kernel_rfl
@[simp] theorem td14 : tdOf Try.prog 14 = .agg [.string ByteArray.empty, .int .u64 0] [(0, 1, 9), (1, 1, 12)] := by kernel_rfl
@[simp] theorem bt14 : Try.prog.bytesOf 14 = 24 := by kernel_rfl
@[simp] theorem td15 : tdOf Try.prog 15 = .cell (.pointer none) := by kernel_rfl
@[simp] theorem bt15 : Try.prog.bytesOf 15 = 8 := by kernel_rfl
@[simp] theorem td16 : tdOf Try.prog 16 = .cell (.pointer none) := by kernel_rfl
@[simp] theorem bt16 : Try.prog.bytesOf 16 = 8 := by kernel_rfl
@[simp] theorem td17 : tdOf Try.prog 17 = .cell (.pointer none) := by kernel_rfl
@[simp] theorem bt17 : Try.prog.bytesOf 17 = 8 := by kernel_rfl
@[simp] theorem td18 : tdOf Try.prog 18 = .agg [.pointer none] [(0, 1, 17)] := by kernel_rfl
@[simp] theorem bt18 : Try.prog.bytesOf 18 = 8 := by kernel_rfl
@[simp] theorem td19 : tdOf Try.prog 19 = .agg [.pointer none] [(0, 1, 17)] := by kernel_rfl
@[simp] theorem bt19 : Try.prog.bytesOf 19 = 8 := by kernel_rfl
@[simp] theorem td20 : tdOf Try.prog 20 = .cell (.nilIface) := by kernel_rfl
@[simp] theorem bt20 : Try.prog.bytesOf 20 = 16 := by kernel_rfl
@[simp] theorem td21 : tdOf Try.prog 21 = .cell (.int .i32 0) := by kernel_rfl
@[simp] theorem bt21 : Try.prog.bytesOf 21 = 4 := by kernel_rfl
@[simp] theorem td22 : tdOf Try.prog 22 = .slice 87 := by kernel_rfl
@[simp] theorem bt22 : Try.prog.bytesOf 22 = 24 := by kernel_rfl
@[simp] theorem td23 : tdOf Try.prog 23 = .slice 79 := by kernel_rfl
@[simp] theorem bt23 : Try.prog.bytesOf 23 = 24 := by kernel_rfl
@[simp] theorem td24 : tdOf Try.prog 24 = .agg [.slice none 0 0, .slice none 0 0] [(0, 1, 22), (1, 1, 23)] := by kernel_rfl
@[simp] theorem bt24 : Try.prog.bytesOf 24 = 48 := by kernel_rfl
@[simp] theorem td25 : tdOf Try.prog 25 = .agg [.slice none 0 0, .slice none 0 0] [(0, 1, 22), (1, 1, 23)] := by kernel_rfl
@[simp] theorem bt25 : Try.prog.bytesOf 25 = 48 := by kernel_rfl
@[simp] theorem td26 : tdOf Try.prog 26 = .agg [.int .i64 0, .int .i64 0] [(0, 1, 3), (1, 1, 3)] := by kernel_rfl
@[simp] theorem bt26 : Try.prog.bytesOf 26 = 16 := by kernel_rfl
@[simp] theorem td27 : tdOf Try.prog 27 = .agg [.int .i64 0, .int .i64 0] [(0, 1, 3), (1, 1, 3)] := by kernel_rfl
@[simp] theorem bt27 : Try.prog.bytesOf 27 = 16 := by kernel_rfl
@[simp] theorem td28 : tdOf Try.prog 28 = .agg [.int .i64 0, .int .i64 0] [(0, 1, 3), (1, 1, 3)] := by kernel_rfl
@[simp] theorem bt28 : Try.prog.bytesOf 28 = 16 := by kernel_rfl
@[simp] theorem td29 : tdOf Try.prog 29 = .agg [.int .i64 0, .int .i64 0] [(0, 1, 3), (1, 1, 3)] := by kernel_rfl
@[simp] theorem bt29 : Try.prog.bytesOf 29 = 16 := by kernel_rfl
@[simp] theorem td30 : tdOf Try.prog 30 = .cell (.nilFunc) := by kernel_rfl
@[simp] theorem bt30 : Try.prog.bytesOf 30 = 8 := by kernel_rfl
@[simp] theorem td31 : tdOf Try.prog 31 = .cell (.nilFunc) := by kernel_rfl
@[simp] theorem bt31 : Try.prog.bytesOf 31 = 8 := by kernel_rfl
@[simp] theorem td32 : tdOf Try.prog 32 = .cell (.int .i64 0) := by kernel_rfl
@[simp] theorem bt32 : Try.prog.bytesOf 32 = 8 := by kernel_rfl
@[simp] theorem td34 : tdOf Try.prog 34 = .cell (.nilFunc) := by kernel_rfl
@[simp] theorem bt34 : Try.prog.bytesOf 34 = 8 := by kernel_rfl
@[simp] theorem td35 : tdOf Try.prog 35 = .cell (.nilFunc) := by kernel_rfl
@[simp] theorem bt35 : Try.prog.bytesOf 35 = 8 := by kernel_rfl
@[simp] theorem td36 : tdOf Try.prog 36 = .cell (.nilFunc) := by kernel_rfl
@[simp] theorem bt36 : Try.prog.bytesOf 36 = 8 := by kernel_rfl
@[simp] theorem td37 : tdOf Try.prog 37 = .cell (.nilFunc) := by kernel_rfl
@[simp] theorem bt37 : Try.prog.bytesOf 37 = 8 := by kernel_rfl
@[simp] theorem td38 : tdOf Try.prog 38 = .slice 60 := by kernel_rfl
@[simp] theorem bt38 : Try.prog.bytesOf 38 = 24 := by kernel_rfl
@[simp] theorem td39 : tdOf Try.prog 39 = .cell (.nilFunc) := by kernel_rfl
@[simp] theorem bt39 : Try.prog.bytesOf 39 = 8 := by kernel_rfl
@[simp] theorem td40 : tdOf Try.prog 40 = .cell (.nilFunc) := by kernel_rfl
@[simp] theorem bt40 : Try.prog.bytesOf 40 = 8 := by kernel_rfl
@[simp] theorem td41 : tdOf Try.prog 41 = .cell (.nilFunc) := by kernel_rfl
@[simp] theorem bt41 : Try.prog.bytesOf 41 = 8 := by kernel_rfl
@[simp] theorem td42 : tdOf Try.prog 42 = .cell (.nilFunc) := by kernel_rfl
@[simp] theorem bt42 : Try.prog.bytesOf 42 = 8 := by kernel_rfl
@[simp] theorem td44 : tdOf Try.prog 44 = .cell (.nilFunc) := by kernel_rfl
@[simp] theorem bt44 : Try.prog.bytesOf 44 = 8 := by kernel_rfl
@[simp] theorem td45 : tdOf Try.prog 45 = .cell (.nilFunc) := by kernel_rfl
@[simp] theorem bt45 : Try.prog.bytesOf 45 = 8 := by kernel_rfl
@[simp] theorem td46 : tdOf Try.prog 46 = .cell (.nilFunc) := by kernel_rfl
@[simp] theorem bt46 : Try.prog.bytesOf 46 = 8 := by kernel_rfl
@[simp] theorem td47 : tdOf Try.prog 47 = .cell (.nilFunc) := by kernel_rfl
@[simp] theorem bt47 : Try.prog.bytesOf 47 = 8 := by kernel_rfl
@[simp] theorem td49 : tdOf Try.prog 49 = .cell (.nilFunc) := by kernel_rfl
@[simp] theorem bt49 : Try.prog.bytesOf 49 = 8 := by kernel_rfl
@[simp] theorem td50 : tdOf Try.prog 50 = .cell (.nilFunc) := by kernel_rfl
@[simp] theorem bt50 : Try.prog.bytesOf 50 = 8 := by kernel_rfl
@[simp] theorem td52 : tdOf Try.prog 52 = .cell (.nilFunc) := by kernel_rfl
@[simp] theorem bt52 : Try.prog.bytesOf 52 = 8 := by kernel_rfl
@[simp] theorem td53 : tdOf Try.prog 53 = .cell (.nilFunc) := by kernel_rfl
@[simp] theorem bt53 : Try.prog.bytesOf 53 = 8 := by kernel_rfl
@[simp] theorem td55 : tdOf Try.prog 55 = .cell (.nilFunc) := by kernel_rfl
@[simp] theorem bt55 : Try.prog.bytesOf 55 = 8 := by kernel_rfl
@[simp] theorem td56 : tdOf Try.prog 56 = .cell (.nilFunc) := by kernel_rfl
@[simp] theorem bt56 : Try.prog.bytesOf 56 = 8 := by kernel_rfl
@[simp] theorem td57 : tdOf Try.prog 57 = .cell (.nilFunc) := by kernel_rfl
@[simp] theorem bt57 : Try.prog.bytesOf 57 = 8 := by kernel_rfl
@[simp] theorem td58 : tdOf Try.prog 58 = .cell (.nilFunc) := by kernel_rfl
@[simp] theorem bt58 : Try.prog.bytesOf 58 = 8 := by kernel_rfl
@[simp] theorem td59 : tdOf Try.prog 59 = .agg [.int .i64 0, .int .i64 0, .int .i64 0] [(0, 1, 3), (1, 1, 3), (2, 1, 3)] := by kernel_rfl
@[simp] theorem bt59 : Try.prog.bytesOf 59 = 24 := by kernel_rfl
@[simp] theorem td60 : tdOf Try.prog 60 = .agg [.int .i64 0, .int .i64 0, .int .i64 0] [(0, 1, 3), (1, 1, 3), (2, 1, 3)] := by kernel_rfl
@[simp] theorem bt60 : Try.prog.bytesOf 60 = 24 := by kernel_rfl
@[simp] theorem td61 : tdOf Try.prog 61 = .cell (.nilFunc) := by kernel_rfl
@[simp] theorem bt61 : Try.prog.bytesOf 61 = 8 := by kernel_rfl
@[simp] theorem td63 : tdOf Try.prog 63 = .cell (.nilFunc) := by kernel_rfl
@[simp] theorem bt63 : Try.prog.bytesOf 63 = 8 := by kernel_rfl
@[simp] theorem td65 : tdOf Try.prog 65 = .cell (.nilFunc) := by kernel_rfl
@[simp] theorem bt65 : Try.prog.bytesOf 65 = 8 := by kernel_rfl
@[simp] theorem td66 : tdOf Try.prog 66 = .slice 29 := by kernel_rfl
@[simp] theorem bt66 : Try.prog.bytesOf 66 = 24 := by kernel_rfl
@[simp] theorem td67 : tdOf Try.prog 67 = .slice 76 := by kernel_rfl
@[simp] theorem bt67 : Try.prog.bytesOf 67 = 24 := by kernel_rfl
@[simp] theorem td69 : tdOf Try.prog 69 = .cell (.nilFunc) := by kernel_rfl
@[simp] theorem bt69 : Try.prog.bytesOf 69 = 8 := by kernel_rfl
@[simp] theorem td70 : tdOf Try.prog 70 = .cell (.nilFunc) := by kernel_rfl
@[simp] theorem bt70 : Try.prog.bytesOf 70 = 8 := by kernel_rfl
@[simp] theorem td71 : tdOf Try.prog 71 = .cell (.nilFunc) := by kernel_rfl
@[simp] theorem bt71 : Try.prog.bytesOf 71 = 8 := by kernel_rfl
@[simp] theorem td72 : tdOf Try.prog 72 = .cell (.nilFunc) := by kernel_rfl
@[simp] theorem bt72 : Try.prog.bytesOf 72 = 8 := by kernel_rfl
@[simp] theorem td73 : tdOf Try.prog 73 = .cell (.nilFunc) := by kernel_rfl
@[simp] theorem bt73 : Try.prog.bytesOf 73 = 8 := by kernel_rfl
@[simp] theorem td74 : tdOf Try.prog 74 = .cell (.nilFunc) := by kernel_rfl
@[simp] theorem bt74 : Try.prog.bytesOf 74 = 8 := by kernel_rfl
@[simp] theorem td75 : tdOf Try.prog 75 = .agg [.int .i64 0, .int .i64 0, .int .i64 0, .int .i64 0] [(0, 1, 3), (1, 1, 3), (2, 1, 3), (3, 1, 3)] := by kernel_rfl
@[simp] theorem bt75 : Try.prog.bytesOf 75 = 32 := by kernel_rfl
@[simp] theorem td76 : tdOf Try.prog 76 = .agg [.int .i64 0, .int .i64 0, .int .i64 0, .int .i64 0] [(0, 1, 3), (1, 1, 3), (2, 1, 3), (3, 1, 3)] := by kernel_rfl
@[simp] theorem bt76 : Try.prog.bytesOf 76 = 32 := by kernel_rfl
@[simp] theorem td77 : tdOf Try.prog 77 = .slice 82 := by kernel_rfl
@[simp] theorem bt77 : Try.prog.bytesOf 77 = 24 := by kernel_rfl
@[simp] theorem td78 : tdOf Try.prog 78 = .agg [.int .i64 0, .int .i64 0, .slice none 0 0, .int .i64 0, .int .i64 0] [(0, 1, 3), (1, 1, 3), (2, 1, 77), (3, 1, 3), (4, 1, 3)] := by kernel_rfl
@[simp] theorem bt78 : Try.prog.bytesOf 78 = 56 := by kernel_rfl
@[simp] theorem td79 : tdOf Try.prog 79 = .agg [.int .i64 0, .int .i64 0, .slice none 0 0, .int .i64 0, .int .i64 0] [(0, 1, 3), (1, 1, 3), (2, 1, 77), (3, 1, 3), (4, 1, 3)] := by kernel_rfl
@[simp] theorem bt79 : Try.prog.bytesOf 79 = 56 := by kernel_rfl
@[simp] theorem td80 : tdOf Try.prog 80 = .cell (.nilFunc) := by kernel_rfl
@[simp] theorem bt80 : Try.prog.bytesOf 80 = 8 := by kernel_rfl
@[simp] theorem td81 : tdOf Try.prog 81 = .agg [.int .i64 0, .int .i64 0] [(0, 1, 3), (1, 1, 3)] := by kernel_rfl
@[simp] theorem bt81 : Try.prog.bytesOf 81 = 16 := by kernel_rfl
@[simp] theorem td82 : tdOf Try.prog 82 = .agg [.int .i64 0, .int .i64 0] [(0, 1, 3), (1, 1, 3)] := by kernel_rfl
@[simp] theorem bt82 : Try.prog.bytesOf 82 = 16 := by kernel_rfl
@[simp] theorem td83 : tdOf Try.prog 83 = .cell (.nilFunc) := by kernel_rfl
@[simp] theorem bt83 : Try.prog.bytesOf 83 = 8 := by kernel_rfl
@[simp] theorem td84 : tdOf Try.prog 84 = .cell (.int .i64 0) := by kernel_rfl
@[simp] theorem bt84 : Try.prog.bytesOf 84 = 8 := by kernel_rfl
@[simp] theorem td85 : tdOf Try.prog 85 = .slice 107 := by kernel_rfl
@[simp] theorem bt85 : Try.prog.bytesOf 85 = 24 := by kernel_rfl
@[simp] theorem td86 : tdOf Try.prog 86 = .agg [.int .i64 0, .int .i64 0, .int .i64 0, .slice none 0 0, .int .i64 0] [(0, 2, 82), (2, 1, 84), (3, 1, 85), (4, 1, 3)] := by kernel_rfl
@[simp] theorem bt86 : Try.prog.bytesOf 86 = 56 := by kernel_rfl
@[simp] theorem td87 : tdOf Try.prog 87 = .agg [.int .i64 0, .int .i64 0, .int .i64 0, .slice none 0 0, .int .i64 0] [(0, 2, 82), (2, 1, 84), (3, 1, 85), (4, 1, 3)] := by kernel_rfl
@[simp] theorem bt87 : Try.prog.bytesOf 87 = 56 := by kernel_rfl
@[simp] theorem td88 : tdOf Try.prog 88 = .cell (.nilFunc) := by kernel_rfl
@[simp] theorem bt88 : Try.prog.bytesOf 88 = 8 := by kernel_rfl
@[simp] theorem td89 : tdOf Try.prog 89 = .cell (.nilFunc) := by kernel_rfl
@[simp] theorem bt89 : Try.prog.bytesOf 89 = 8 := by kernel_rfl
@[simp] theorem td90 : tdOf Try.prog 90 = .cell (.pointer none) := by kernel_rfl
@[simp] theorem bt90 : Try.prog.bytesOf 90 = 8 := by kernel_rfl
@[simp] theorem td92 : tdOf Try.prog 92 = .cell (.nilFunc) := by kernel_rfl
@[simp] theorem bt92 : Try.prog.bytesOf 92 = 8 := by kernel_rfl
@[simp] theorem td93 : tdOf Try.prog 93 = .cell (.nilFunc) := by kernel_rfl
@[simp] theorem bt93 : Try.prog.bytesOf 93 = 8 := by kernel_rfl
@[simp] theorem td94 : tdOf Try.prog 94 = .cell (.nilFunc) := by kernel_rfl
@[simp] theorem bt94 : Try.prog.bytesOf 94 = 8 := by kernel_rfl
@[simp] theorem td95 : tdOf Try.prog 95 = .cell (.nilFunc) := by kernel_rfl
@[simp] theorem bt95 : Try.prog.bytesOf 95 = 8 := by kernel_rfl
@[simp] theorem td96 : tdOf Try.prog 96 = .agg [.int .i64 0, .int .i64 0, .int .i64 0, .int .i64 0] [(0, 2, 82), (2, 2, 82)] := by kernel_rfl
@[simp] theorem bt96 : Try.prog.bytesOf 96 = 32 := by kernel_rfl
@[simp] theorem td97 : tdOf Try.prog 97 = .agg [.int .i64 0, .int .i64 0, .int .i64 0, .int .i64 0] [(0, 2, 82), (2, 2, 82)] := by kernel_rfl
@[simp] theorem bt97 : Try.prog.bytesOf 97 = 32 := by kernel_rfl
@[simp] theorem td98 : tdOf Try.prog 98 = .agg [.int .i64 0, .int .i64 0, .int .i64 0, .int .i64 0, .int .i64 0, .int .i64 0, .slice none 0 0, .int .i64 0, .int .i64 0] [(0, 2, 27), (2, 4, 97), (6, 1, 77), (7, 1, 3), (8, 1, 3)] := by kernel_rfl
@[simp] theorem bt98 : Try.prog.bytesOf 98 = 88 := by kernel_rfl
@[simp] theorem td99 : tdOf Try.prog 99 = .agg [.int .i64 0, .int .i64 0, .int .i64 0, .int .i64 0, .int .i64 0, .int .i64 0, .slice none 0 0, .int .i64 0, .int .i64 0] [(0, 2, 27), (2, 4, 97), (6, 1, 77), (7, 1, 3), (8, 1, 3)] := by kernel_rfl
@[simp] theorem bt99 : Try.prog.bytesOf 99 = 88 := by kernel_rfl
@[simp] theorem td100 : tdOf Try.prog 100 = .cell (.nilFunc) := by kernel_rfl
@[simp] theorem bt100 : Try.prog.bytesOf 100 = 8 := by kernel_rfl
@[simp] theorem td101 : tdOf Try.prog 101 = .cell (.nilFunc) := by kernel_rfl
@[simp] theorem bt101 : Try.prog.bytesOf 101 = 8 := by kernel_rfl
@[simp] theorem td102 : tdOf Try.prog 102 = .cell (.nilFunc) := by kernel_rfl
@[simp] theorem bt102 : Try.prog.bytesOf 102 = 8 := by kernel_rfl
@[simp] theorem td103 : tdOf Try.prog 103 = .cell (.nilFunc) := by kernel_rfl
@[simp] theorem bt103 : Try.prog.bytesOf 103 = 8 := by kernel_rfl
@[simp] theorem td104 : tdOf Try.prog 104 = .cell (.nilFunc) := by kernel_rfl
@[simp] theorem bt104 : Try.prog.bytesOf 104 = 8 := by kernel_rfl
@[simp] theorem td105 : tdOf Try.prog 105 = .cell (.nilFunc) := by kernel_rfl
@[simp] theorem bt105 : Try.prog.bytesOf 105 = 8 := by kernel_rfl
@[simp] theorem td106 : tdOf Try.prog 106 = .agg [.int .i64 0, .bool false] [(0, 1, 3), (1, 1, 4)] := by kernel_rfl
@[simp] theorem bt106 : Try.prog.bytesOf 106 = 16 := by kernel_rfl
@[simp] theorem td107 : tdOf Try.prog 107 = .agg [.int .i64 0, .bool false] [(0, 1, 3), (1, 1, 4)] := by kernel_rfl
@[simp] theorem bt107 : Try.prog.bytesOf 107 = 16 := by kernel_rfl
@[simp] theorem td108 : tdOf Try.prog 108 = .cell (.nilFunc) := by kernel_rfl
@[simp] theorem bt108 : Try.prog.bytesOf 108 = 8 := by kernel_rfl
@[simp] theorem td110 : tdOf Try.prog 110 = .cell (.nilFunc) := by kernel_rfl
@[simp] theorem bt110 : Try.prog.bytesOf 110 = 8 := by kernel_rfl
@[simp] theorem td111 : tdOf Try.prog 111 = .cell (.nilFunc) := by kernel_rfl
@[simp] theorem bt111 : Try.prog.bytesOf 111 = 8 := by kernel_rfl
@[simp] theorem td112 : tdOf Try.prog 112 = .cell (.nilFunc) := by kernel_rfl
@[simp] theorem bt112 : Try.prog.bytesOf 112 = 8 := by kernel_rfl
@[simp] theorem td113 : tdOf Try.prog 113 = .slice 99 := by kernel_rfl
@[simp] theorem bt113 : Try.prog.bytesOf 113 = 24 := by kernel_rfl
@[simp] theorem td115 : tdOf Try.prog 115 = .cell (.nilFunc) := by kernel_rfl
@[simp] theorem bt115 : Try.prog.bytesOf 115 = 8 := by kernel_rfl
@[simp] theorem td116 : tdOf Try.prog 116 = .slice 27 := by kernel_rfl
@[simp] theorem bt116 : Try.prog.bytesOf 116 = 24 := by kernel_rfl
@[simp] theorem td117 : tdOf Try.prog 117 = .cell (.nilFunc) := by kernel_rfl
@[simp] theorem bt117 : Try.prog.bytesOf 117 = 8 := by kernel_rfl
@[simp] theorem td118 : tdOf Try.prog 118 = .cell (.nilFunc) := by kernel_rfl
@[simp] theorem bt118 : Try.prog.bytesOf 118 = 8 := by kernel_rfl
@[simp] theorem td119 : tdOf Try.prog 119 = .cell (.nilFunc) := by kernel_rfl
@[simp] theorem bt119 : Try.prog.bytesOf 119 = 8 := by kernel_rfl
@[simp] theorem td120 : tdOf Try.prog 120 = .cell (.nilFunc) := by kernel_rfl
@[simp] theorem bt120 : Try.prog.bytesOf 120 = 8 := by kernel_rfl
@[simp] theorem td121 : tdOf Try.prog 121 = .cell (.nilFunc) := by kernel_rfl
@[simp] theorem bt121 : Try.prog.bytesOf 121 = 8 := by kernel_rfl
@[simp] theorem td122 : tdOf Try.prog 122 = .slice 113 := by kernel_rfl
@[simp] theorem bt122 : Try.prog.bytesOf 122 = 24 := by kernel_rfl
@[simp] theorem td123 : tdOf Try.prog 123 = .agg [.slice none 0 0, .slice none 0 0, .slice none 0 0] [(0, 2, 25), (2, 1, 122)] := by kernel_rfl
@[simp] theorem bt123 : Try.prog.bytesOf 123 = 72 := by kernel_rfl
@[simp] theorem td124 : tdOf Try.prog 124 = .agg [.slice none 0 0, .slice none 0 0, .slice none 0 0] [(0, 2, 25), (2, 1, 122)] := by kernel_rfl
@[simp] theorem bt124 : Try.prog.bytesOf 124 = 72 := by kernel_rfl
@[simp] theorem td125 : tdOf Try.prog 125 = .cell (.pointer none) := by kernel_rfl
@[simp] theorem bt125 : Try.prog.bytesOf 125 = 8 := by kernel_rfl
@[simp] theorem td127 : tdOf Try.prog 127 = .cell (.nilFunc) := by kernel_rfl
@[simp] theorem bt127 : Try.prog.bytesOf 127 = 8 := by kernel_rfl
@[simp] theorem td128 : tdOf Try.prog 128 = .cell (.nilFunc) := by kernel_rfl
@[simp] theorem bt128 : Try.prog.bytesOf 128 = 8 := by kernel_rfl
@[simp] theorem td129 : tdOf Try.prog 129 = .agg [.int .i64 0, .bool false] [(0, 1, 3), (1, 1, 4)] := by kernel_rfl
@[simp] theorem bt129 : Try.prog.bytesOf 129 = 16 := by kernel_rfl
@[simp] theorem td130 : tdOf Try.prog 130 = .agg [.int .i64 0, .bool false] [(0, 1, 3), (1, 1, 4)] := by kernel_rfl
@[simp] theorem bt130 : Try.prog.bytesOf 130 = 16 := by kernel_rfl
@[simp] theorem td131 : tdOf Try.prog 131 = .slice 3 := by kernel_rfl
@[simp] theorem bt131 : Try.prog.bytesOf 131 = 24 := by kernel_rfl
@[simp] theorem td132 : tdOf Try.prog 132 = .cell (.map none) := by kernel_rfl
@[simp] theorem bt132 : Try.prog.bytesOf 132 = 8 := by kernel_rfl
@[simp] theorem td133 : tdOf Try.prog 133 = .agg [.slice none 0 0, .slice none 0 0, .slice none 0 0, .map none] [(0, 2, 25), (2, 1, 131), (3, 1, 132)] := by kernel_rfl
@[simp] theorem bt133 : Try.prog.bytesOf 133 = 80 := by kernel_rfl
@[simp] theorem td134 : tdOf Try.prog 134 = .agg [.slice none 0 0, .slice none 0 0, .slice none 0 0, .map none] [(0, 2, 25), (2, 1, 131), (3, 1, 132)] := by kernel_rfl
@[simp] theorem bt134 : Try.prog.bytesOf 134 = 80 := by kernel_rfl
@[simp] theorem td135 : tdOf Try.prog 135 = .cell (.nilFunc) := by kernel_rfl
@[simp] theorem bt135 : Try.prog.bytesOf 135 = 8 := by kernel_rfl
@[simp] theorem td136 : tdOf Try.prog 136 = .cell (.nilFunc) := by kernel_rfl
@[simp] theorem bt136 : Try.prog.bytesOf 136 = 8 := by kernel_rfl
@[simp] theorem td137 : tdOf Try.prog 137 = .slice 142 := by kernel_rfl
@[simp] theorem bt137 : Try.prog.bytesOf 137 = 24 := by kernel_rfl
@[simp] theorem td138 : tdOf Try.prog 138 = .cell (.nilFunc) := by kernel_rfl
@[simp] theorem bt138 : Try.prog.bytesOf 138 = 8 := by kernel_rfl
@[simp] theorem td139 : tdOf Try.prog 139 = .cell (.nilFunc) := by kernel_rfl
@[simp] theorem bt139 : Try.prog.bytesOf 139 = 8 := by kernel_rfl
@[simp] theorem td140 : tdOf Try.prog 140 = .cell (.nilFunc) := by kernel_rfl
@[simp] theorem bt140 : Try.prog.bytesOf 140 = 8 := by kernel_rfl
@[simp] theorem td141 : tdOf Try.prog 141 = .agg [.int .i64 0, .int .i64 0, .int .i64 0, .int .i64 0, .int .i64 0] [(0, 2, 27), (2, 2, 27), (4, 1, 3)] := by kernel_rfl
@[simp] theorem bt141 : Try.prog.bytesOf 141 = 40 := by kernel_rfl
@[simp] theorem td142 : tdOf Try.prog 142 = .agg [.int .i64 0, .int .i64 0, .int .i64 0, .int .i64 0, .int .i64 0] [(0, 2, 27), (2, 2, 27), (4, 1, 3)] := by kernel_rfl
@[simp] theorem bt142 : Try.prog.bytesOf 142 = 40 := by kernel_rfl
@[simp] theorem td143 : tdOf Try.prog 143 = .cell (.nilFunc) := by kernel_rfl
@[simp] theorem bt143 : Try.prog.bytesOf 143 = 8 := by kernel_rfl
@[simp] theorem td144 : tdOf Try.prog 144 = .cell (.nilFunc) := by kernel_rfl
@[simp] theorem bt144 : Try.prog.bytesOf 144 = 8 := by kernel_rfl
@[simp] theorem td145 : tdOf Try.prog 145 = .cell (.nilFunc) := by kernel_rfl
@[simp] theorem bt145 : Try.prog.bytesOf 145 = 8 := by kernel_rfl
@[simp] theorem td146 : tdOf Try.prog 146 = .cell (.nilFunc) := by kernel_rfl
@[simp] theorem bt146 : Try.prog.bytesOf 146 = 8 := by kernel_rfl
@[simp] theorem td148 : tdOf Try.prog 148 = .cell (.nilFunc) := by kernel_rfl
@[simp] theorem bt148 : Try.prog.bytesOf 148 = 8 := by kernel_rfl
@[simp] theorem td149 : tdOf Try.prog 149 = .cell (.nilFunc) := by kernel_rfl
@[simp] theorem bt149 : Try.prog.bytesOf 149 = 8 := by kernel_rfl
@[simp] theorem td150 : tdOf Try.prog 150 = .agg [.int .i64 0, .int .i64 0] [(0, 1, 3), (1, 1, 3)] := by kernel_rfl
@[simp] theorem bt150 : Try.prog.bytesOf 150 = 16 := by kernel_rfl
@[simp] theorem td151 : tdOf Try.prog 151 = .agg [.int .i64 0, .int .i64 0] [(0, 1, 3), (1, 1, 3)] := by kernel_rfl
@[simp] theorem bt151 : Try.prog.bytesOf 151 = 16 := by kernel_rfl
@[simp] theorem td152 : tdOf Try.prog 152 = .cell (.nilFunc) := by kernel_rfl
@[simp] theorem bt152 : Try.prog.bytesOf 152 = 8 := by kernel_rfl
@[simp] theorem td153 : tdOf Try.prog 153 = .cell (.nilFunc) := by kernel_rfl
@[simp] theorem bt153 : Try.prog.bytesOf 153 = 8 := by kernel_rfl
@[simp] theorem td154 : tdOf Try.prog 154 = .cell (.nilFunc) := by kernel_rfl
@[simp] theorem bt154 : Try.prog.bytesOf 154 = 8 := by kernel_rfl
@[simp] theorem td155 : tdOf Try.prog 155 = .cell (.nilFunc) := by kernel_rfl
@[simp] theorem bt155 : Try.prog.bytesOf 155 = 8 := by kernel_rfl
@[simp] theorem td156 : tdOf Try.prog 156 = .slice 159 := by kernel_rfl
@[simp] theorem bt156 : Try.prog.bytesOf 156 = 24 := by kernel_rfl
@[simp] theorem td157 : tdOf Try.prog 157 = .cell (.nilFunc) := by kernel_rfl
@[simp] theorem bt157 : Try.prog.bytesOf 157 = 8 := by kernel_rfl
@[simp] theorem td158 : tdOf Try.prog 158 = .agg [.nilFunc] [(0, 1, 95)] := by kernel_rfl
@[simp] theorem bt158 : Try.prog.bytesOf 158 = 8 := by kernel_rfl
@[simp] theorem td159 : tdOf Try.prog 159 = .agg [.nilFunc] [(0, 1, 95)] := by kernel_rfl
@[simp] theorem bt159 : Try.prog.bytesOf 159 = 8 := by kernel_rfl
@[simp] theorem td160 : tdOf Try.prog 160 = .cell (.nilFunc) := by kernel_rfl
@[simp] theorem bt160 : Try.prog.bytesOf 160 = 8 := by kernel_rfl
@[simp] theorem td161 : tdOf Try.prog 161 = .cell (.nilFunc) := by kernel_rfl
@[simp] theorem bt161 : Try.prog.bytesOf 161 = 8 := by kernel_rfl
@[simp] theorem td162 : tdOf Try.prog 162 = .cell (.nilFunc) := by kernel_rfl
@[simp] theorem bt162 : Try.prog.bytesOf 162 = 8 := by kernel_rfl
@[simp] theorem td163 : tdOf Try.prog 163 = .cell (.nilFunc) := by kernel_rfl
@[simp] theorem bt163 : Try.prog.bytesOf 163 = 8 := by kernel_rfl
@[simp] theorem td164 : tdOf Try.prog 164 = .cell (.nilFunc) := by kernel_rfl
@[simp] theorem bt164 : Try.prog.bytesOf 164 = 8 := by kernel_rfl
@[simp] theorem td165 : tdOf Try.prog 165 = .cell (.nilFunc) := by kernel_rfl
@[simp] theorem bt165 : Try.prog.bytesOf 165 = 8 := by kernel_rfl
@[simp] theorem td166 : tdOf Try.prog 166 = .cell (.nilFunc) := by kernel_rfl
@[simp] theorem bt166 : Try.prog.bytesOf 166 = 8 := by kernel_rfl
@[simp] theorem td167 : tdOf Try.prog 167 = .cell (.nilFunc) := by kernel_rfl
@[simp] theorem bt167 : Try.prog.bytesOf 167 = 8 := by kernel_rfl
@[simp] theorem td168 : tdOf Try.prog 168 = .cell (.nilFunc) := by kernel_rfl
@[simp] theorem bt168 : Try.prog.bytesOf 168 = 8 := by kernel_rfl
@[simp] theorem td169 : tdOf Try.prog 169 = .cell (.nilFunc) := by kernel_rfl
@[simp] theorem bt169 : Try.prog.bytesOf 169 = 8 := by kernel_rfl
@[simp] theorem td170 : tdOf Try.prog 170 = .cell (.nilFunc) := by kernel_rfl
@[simp] theorem bt170 : Try.prog.bytesOf 170 = 8 := by kernel_rfl
@[simp] theorem td171 : tdOf Try.prog 171 = .cell (.nilFunc) := by kernel_rfl
@[simp] theorem bt171 : Try.prog.bytesOf 171 = 8 := by kernel_rfl
@[simp] theorem td172 : tdOf Try.prog 172 = .cell (.nilFunc) := by kernel_rfl
@[simp] theorem bt172 : Try.prog.bytesOf 172 = 8 := by kernel_rfl
@[simp] theorem td173 : tdOf Try.prog 173 = .cell (.nilFunc) := by kernel_rfl
@[simp] theorem bt173 : Try.prog.bytesOf 173 = 8 := by kernel_rfl
@[simp] theorem td174 : tdOf Try.prog 174 = .cell (.nilFunc) := by kernel_rfl
@[simp] theorem bt174 : Try.prog.bytesOf 174 = 8 := by kernel_rfl
@[simp] theorem td175 : tdOf Try.prog 175 = .cell (.map none) := by kernel_rfl
@[simp] theorem bt175 : Try.prog.bytesOf 175 = 8 := by kernel_rfl
@[simp] theorem td176 : tdOf Try.prog 176 = .cell (.nilFunc) := by kernel_rfl
@[simp] theorem bt176 : Try.prog.bytesOf 176 = 8 := by kernel_rfl
@[simp] theorem td177 : tdOf Try.prog 177 = .cell (.nilFunc) := by kernel_rfl
@[simp] theorem bt177 : Try.prog.bytesOf 177 = 8 := by kernel_rfl
@[simp] theorem td178 : tdOf Try.prog 178 = .cell (.nilFunc) := by kernel_rfl
@[simp] theorem bt178 : Try.prog.bytesOf 178 = 8 := by kernel_rfl
@[simp] theorem td179 : tdOf Try.prog 179 = .cell (.int .u64 0) := by kernel_rfl
@[simp] theorem bt179 : Try.prog.bytesOf 179 = 8 := by kernel_rfl
@[simp] theorem td180 : tdOf Try.prog 180 = .arr [.int .u64 0, .int .u64 0] 2 179 := by kernel_rfl
@[simp] theorem bt180 : Try.prog.bytesOf 180 = 16 := by kernel_rfl
@[simp] theorem td181 : tdOf Try.prog 181 = .arr [.int .u64 0, .int .u64 0] 2 179 := by kernel_rfl
@[simp] theorem bt181 : Try.prog.bytesOf 181 = 16 := by kernel_rfl
@[simp] theorem td182 : tdOf Try.prog 182 = .cell (.nilFunc) := by kernel_rfl
@[simp] theorem bt182 : Try.prog.bytesOf 182 = 8 := by kernel_rfl
@[simp] theorem td183 : tdOf Try.prog 183 = .cell (.nilFunc) := by kernel_rfl
@[simp] theorem bt183 : Try.prog.bytesOf 183 = 8 := by kernel_rfl
@[simp] theorem td184 : tdOf Try.prog 184 = .cell (.nilFunc) := by kernel_rfl
@[simp] theorem bt184 : Try.prog.bytesOf 184 = 8 := by kernel_rfl
@[simp] theorem td185 : tdOf Try.prog 185 = .cell (.nilFunc) := by kernel_rfl
@[simp] theorem bt185 : Try.prog.bytesOf 185 = 8 := by kernel_rfl
@[simp] theorem td186 : tdOf Try.prog 186 = .arr [.int .i64 0, .int .i64 0, .int .i64 0, .int .i64 0, .int .i64 0, .int .i64 0, .int .i64 0] 7 3 := by kernel_rfl
@[simp] theorem bt186 : Try.prog.bytesOf 186 = 56 := by kernel_rfl
@[simp] theorem td187 : tdOf Try.prog 187 = .cell (.nilFunc) := by kernel_rfl
@[simp] theorem bt187 : Try.prog.bytesOf 187 = 8 := by kernel_rfl
@[simp] theorem td188 : tdOf Try.prog 188 = .cell (.nilFunc) := by kernel_rfl
@[simp] theorem bt188 : Try.prog.bytesOf 188 = 8 := by kernel_rfl
@[simp] theorem td189 : tdOf Try.prog 189 = .cell (.nilFunc) := by kernel_rfl
@[simp] theorem bt189 : Try.prog.bytesOf 189 = 8 := by kernel_rfl
@[simp] theorem td191 : tdOf Try.prog 191 = .cell (.nilFunc) := by kernel_rfl
@[simp] theorem bt191 : Try.prog.bytesOf 191 = 8 := by kernel_rfl
@[simp] theorem td192 : tdOf Try.prog 192 = .cell (.nilFunc) := by kernel_rfl
@[simp] theorem bt192 : Try.prog.bytesOf 192 = 8 := by kernel_rfl
@[simp] theorem td193 : tdOf Try.prog 193 = .cell (.nilFunc) := by kernel_rfl
@[simp] theorem bt193 : Try.prog.bytesOf 193 = 8 := by kernel_rfl
@[simp] theorem td194 : tdOf Try.prog 194 = .slice 77 := by kernel_rfl
@[simp] theorem bt194 : Try.prog.bytesOf 194 = 24 := by kernel_rfl
@[simp] theorem td195 : tdOf Try.prog 195 = .cell (.nilFunc) := by kernel_rfl
@[simp] theorem bt195 : Try.prog.bytesOf 195 = 8 := by kernel_rfl
@[simp] theorem td196 : tdOf Try.prog 196 = .cell (.float .f64 0) := by kernel_rfl
@[simp] theorem bt196 : Try.prog.bytesOf 196 = 8 := by kernel_rfl
@[simp] theorem td197 : tdOf Try.prog 197 = .cell (.nilFunc) := by kernel_rfl
@[simp] theorem bt197 : Try.prog.bytesOf 197 = 8 := by kernel_rfl
@[simp] theorem td198 : tdOf Try.prog 198 = .cell (.nilFunc) := by kernel_rfl
@[simp] theorem bt198 : Try.prog.bytesOf 198 = 8 := by kernel_rfl
@[simp] theorem td199 : tdOf Try.prog 199 = .cell (.int .u64 0) := by kernel_rfl
@[simp] theorem bt199 : Try.prog.bytesOf 199 = 8 := by kernel_rfl
@[simp] theorem td200 : tdOf Try.prog 200 = .cell (.nilFunc) := by kernel_rfl
@[simp] theorem bt200 : Try.prog.bytesOf 200 = 8 := by kernel_rfl
@[simp] theorem td201 : tdOf Try.prog 201 = .cell (.nilFunc) := by kernel_rfl
@[simp] theorem bt201 : Try.prog.bytesOf 201 = 8 := by kernel_rfl
@[simp] theorem td202 : tdOf Try.prog 202 = .agg [.pointer none, .pointer none, .pointer none, .string ByteArray.empty] [(0, 1, 17), (1, 1, 17), (2, 1, 17), (3, 1, 9)] := by kernel_rfl
@[simp] theorem bt202 : Try.prog.bytesOf 202 = 40 := by kernel_rfl
@[simp] theorem td203 : tdOf Try.prog 203 = .agg [.pointer none, .pointer none, .pointer none, .string ByteArray.empty] [(0, 1, 17), (1, 1, 17), (2, 1, 17), (3, 1, 9)] := by kernel_rfl
@[simp] theorem bt203 : Try.prog.bytesOf 203 = 40 := by kernel_rfl
@[simp] theorem td204 : tdOf Try.prog 204 = .arr [] 0 16 := by kernel_rfl
@[simp] theorem bt204 : Try.prog.bytesOf 204 = 0 := by kernel_rfl
@[simp] theorem td205 : tdOf Try.prog 205 = .agg [] [(0, 0, 204)] := by kernel_rfl
@[simp] theorem bt205 : Try.prog.bytesOf 205 = 0 := by kernel_rfl
@[simp] theorem td206 : tdOf Try.prog 206 = .agg [] [(0, 0, 204)] := by kernel_rfl
@[simp] theorem bt206 : Try.prog.bytesOf 206 = 0 := by kernel_rfl
@[simp] theorem td207 : tdOf Try.prog 207 = .cell (.nilFunc) := by kernel_rfl
@[simp] theorem bt207 : Try.prog.bytesOf 207 = 8 := by kernel_rfl
@[simp] theorem td208 : tdOf Try.prog 208 = .cell (.int .u32 0) := by kernel_rfl
@[simp] theorem bt208 : Try.prog.bytesOf 208 = 4 := by kernel_rfl
@[simp] theorem td209 : tdOf Try.prog 209 = .cell (.int .u8 0) := by kernel_rfl
@[simp] theorem bt209 : Try.prog.bytesOf 209 = 1 := by kernel_rfl
@[simp] theorem td210 : tdOf Try.prog 210 = .cell (.int .u8 0) := by kernel_rfl
@[simp] theorem bt210 : Try.prog.bytesOf 210 = 1 := by kernel_rfl
@[simp] theorem td211 : tdOf Try.prog 211 = .cell (.nilFunc) := by kernel_rfl
@[simp] theorem bt211 : Try.prog.bytesOf 211 = 8 := by kernel_rfl
@[simp] theorem td212 : tdOf Try.prog 212 = .cell (.pointer none) := by kernel_rfl
@[simp] theorem bt212 : Try.prog.bytesOf 212 = 8 := by kernel_rfl
@[simp] theorem td213 : tdOf Try.prog 213 = .cell (.int .i32 0) := by kernel_rfl
@[simp] theorem bt213 : Try.prog.bytesOf 213 = 4 := by kernel_rfl
@[simp] theorem td214 : tdOf Try.prog 214 = .cell (.int .i32 0) := by kernel_rfl
@[simp] theorem bt214 : Try.prog.bytesOf 214 = 4 := by kernel_rfl
@[simp] theorem td215 : tdOf Try.prog 215 = .agg [.int .u64 0, .int .u64 0, .int .u32 0, .int .u8 0, .int .u8 0, .int .u8 0, .int .u8 0, .nilFunc, .pointer none, .int .i32 0, .int .i32 0] [(0, 1, 12), (1, 1, 12), (2, 1, 208), (3, 1, 209), (4, 1, 5), (5, 1, 5), (6, 1, 210), (7, 1, 211), (8, 1, 212), (9, 1, 213), (10, 1, 214)] := by kernel_rfl
@[simp] theorem bt215 : Try.prog.bytesOf 215 = 48 := by kernel_rfl
@[simp] theorem td216 : tdOf Try.prog 216 = .agg [.int .u64 0, .int .u64 0, .int .u32 0, .int .u8 0, .int .u8 0, .int .u8 0, .int .u8 0, .nilFunc, .pointer none, .int .i32 0, .int .i32 0] [(0, 1, 12), (1, 1, 12), (2, 1, 208), (3, 1, 209), (4, 1, 5), (5, 1, 5), (6, 1, 210), (7, 1, 211), (8, 1, 212), (9, 1, 213), (10, 1, 214)] := by kernel_rfl
@[simp] theorem bt216 : Try.prog.bytesOf 216 = 48 := by kernel_rfl
@[simp] theorem td217 : tdOf Try.prog 217 = .cell (.nilFunc) := by kernel_rfl
@[simp] theorem bt217 : Try.prog.bytesOf 217 = 8 := by kernel_rfl
@[simp] theorem td218 : tdOf Try.prog 218 = .cell (.pointer none) := by kernel_rfl
@[simp] theorem bt218 : Try.prog.bytesOf 218 = 8 := by kernel_rfl
@[simp] theorem td219 : tdOf Try.prog 219 = .cell (.nilFunc) := by kernel_rfl
@[simp] theorem bt219 : Try.prog.bytesOf 219 = 8 := by kernel_rfl
@[simp] theorem td220 : tdOf Try.prog 220 = .cell (.nilFunc) := by kernel_rfl
@[simp] theorem bt220 : Try.prog.bytesOf 220 = 8 := by kernel_rfl
@[simp] theorem kt2 : ktOf Try.prog 2 = some (.i .i64) := by kernel_rfl
@[simp] theorem kt3 : ktOf Try.prog 3 = some (.i .i64) := by kernel_rfl
@[simp] theorem kt4 : ktOf Try.prog 4 = some (.b) := by kernel_rfl
@[simp] theorem kt5 : ktOf Try.prog 5 = some (.i .u8) := by kernel_rfl
@[simp] theorem kt6 : ktOf Try.prog 6 = some (.i .u8) := by kernel_rfl
@[simp] theorem sk7 : skOf Try.prog 7 = some [.i .i64, .i .i64, .b, .i .u8] := by kernel_rfl
@[simp] theorem sk8 : skOf Try.prog 8 = some [.i .i64, .i .i64, .b, .i .u8] := by kernel_rfl
@[simp] theorem kt12 : ktOf Try.prog 12 = some (.i .u64) := by kernel_rfl
@[simp] theorem kt21 : ktOf Try.prog 21 = some (.i .i32) := by kernel_rfl
@[simp] theorem sk26 : skOf Try.prog 26 = some [.i .i64, .i .i64] := by kernel_rfl
@[simp] theorem sk27 : skOf Try.prog 27 = some [.i .i64, .i .i64] := by kernel_rfl
@[simp] theorem sk28 : skOf Try.prog 28 = some [.i .i64, .i .i64] := by kernel_rfl
@[simp] theorem sk29 : skOf Try.prog 29 = some [.i .i64, .i .i64] := by kernel_rfl
@[simp] theorem kt32 : ktOf Try.prog 32 = some (.i .i64) := by kernel_rfl
@[simp] theorem sk59 : skOf Try.prog 59 = some [.i .i64, .i .i64, .i .i64] := by kernel_rfl
@[simp] theorem sk60 : skOf Try.prog 60 = some [.i .i64, .i .i64, .i .i64] := by kernel_rfl
@[simp] theorem sk75 : skOf Try.prog 75 = some [.i .i64, .i .i64, .i .i64, .i .i64] := by kernel_rfl
@[simp] theorem sk76 : skOf Try.prog 76 = some [.i .i64, .i .i64, .i .i64, .i .i64] := by kernel_rfl
@[simp] theorem sk81 : skOf Try.prog 81 = some [.i .i64, .i .i64] := by kernel_rfl
@[simp] theorem sk82 : skOf Try.prog 82 = some [.i .i64, .i .i64] := by kernel_rfl
@[simp] theorem kt84 : ktOf Try.prog 84 = some (.i .i64) := by kernel_rfl
@[simp] theorem sk106 : skOf Try.prog 106 = some [.i .i64, .b] := by kernel_rfl
@[simp] theorem sk107 : skOf Try.prog 107 = some [.i .i64, .b] := by kernel_rfl
@[simp] theorem sk129 : skOf Try.prog 129 = some [.i .i64, .b] := by kernel_rfl
@[simp] theorem sk130 : skOf Try.prog 130 = some [.i .i64, .b] := by kernel_rfl
@[simp] theorem mk132 : mkOf Try.prog 132 = some (true, [.i .i64, .b], .int .i64 0) := by kernel_rfl
@[simp] theorem sk150 : skOf Try.prog 150 = some [.i .i64, .i .i64] := by kernel_rfl
@[simp] theorem sk151 : skOf Try.prog 151 = some [.i .i64, .i .i64] := by kernel_rfl
@[simp] theorem mk175 : mkOf Try.prog 175 = some (true, [.i .i64, .b], .bool false) := by kernel_rfl
@[simp] theorem kt179 : ktOf Try.prog 179 = some (.i .u64) := by kernel_rfl
@[simp] theorem kt199 : ktOf Try.prog 199 = some (.i .u64) := by kernel_rfl
@[simp] theorem kt208 : ktOf Try.prog 208 = some (.i .u32) := by kernel_rfl
@[simp] theorem kt209 : ktOf Try.prog 209 = some (.i .u8) := by kernel_rfl
@[simp] theorem kt210 : ktOf Try.prog 210 = some (.i .u8) := by kernel_rfl
@[simp] theorem kt213 : ktOf Try.prog 213 = some (.i .i32) := by kernel_rfl
@[simp] theorem kt214 : ktOf Try.prog 214 = some (.i .i32) := by kernel_rfl
theorem mixed : Try.prog.follows .mixedOrders = true := by kernel_rfl
end Go.AM
