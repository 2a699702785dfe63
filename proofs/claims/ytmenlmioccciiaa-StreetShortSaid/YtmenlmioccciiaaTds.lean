/- What the types of this seat are to the abstract machine. No condition. Printed by tds.py. -/
import Derived.Test.YtmenlmioccciiaaProg
import Derived.Test.YtmenlmioccciiaaGC
namespace Go.AM
open Go.Proofs
@[simp] theorem td1 : tdOf Try.prog 1 = .cell (.nilFunc) := by kernel_rfl
@[simp] theorem bt1 : Try.prog.bytesOf 1 = 8 := by kernel_rfl
@[simp] theorem td2 : tdOf Try.prog 2 = .cell (.int .i64 0) := by kernel_rfl
@[simp] theorem bt2 : Try.prog.bytesOf 2 = 8 := by kernel_rfl
@[simp] theorem td3 : tdOf Try.prog 3 = .cell (.int .i64 0) := by kernel_rfl
@[simp] theorem bt3 : Try.prog.bytesOf 3 = 8 := by kernel_rfl
@[simp] theorem td4 : tdOf Try.prog 4 = .cell (.bool false) := by kernel_rfl
@[simp] theorem bt4 : Try.prog.bytesOf 4 = 1 := by kernel_rfl
@[simp] theorem td5 : tdOf Try.prog 5 = .cell (.int .u8 0) := by kernel_rfl
@[simp] theorem bt5 : Try.prog.bytesOf 5 = 1 := by kernel_rfl
@[simp] theorem td6 : tdOf Try.prog 6 = .cell (.int .u8 0) := by kernel_rfl
@[simp] theorem bt6 : Try.prog.bytesOf 6 = 1 := by kernel_rfl
@[simp] theorem td7 : tdOf Try.prog 7 = .agg [.int .i64 0, .int .i64 0, .bool false, .int .u8 0] [(0, 1, 2), (1, 1, 3), (2, 1, 4), (3, 1, 6)] := by kernel_rfl
@[simp] theorem bt7 : Try.prog.bytesOf 7 = 24 := by kernel_rfl
@[simp] theorem td8 : tdOf Try.prog 8 = .agg [.int .i64 0, .int .i64 0, .bool false, .int .u8 0] [(0, 1, 2), (1, 1, 3), (2, 1, 4), (3, 1, 6)] := by kernel_rfl
@[simp] theorem bt8 : Try.prog.bytesOf 8 = 24 := by kernel_rfl
@[simp] theorem td9 : tdOf Try.prog 9 = .cell (.string ByteArray.empty) := by kernel_rfl
@[simp] theorem bt9 : Try.prog.bytesOf 9 = 16 := by kernel_rfl
@[simp] theorem td10 : tdOf Try.prog 10 = .cell (.string ByteArray.empty) := by kernel_rfl
@[simp] theorem bt10 : Try.prog.bytesOf 10 = 16 := by kernel_rfl
@[simp] theorem td11 : tdOf Try.prog 11 = .cell (.string ByteArray.empty) := by kernel_rfl
@[simp] theorem bt11 : Try.prog.bytesOf 11 = 16 := by kernel_rfl
@[simp] theorem td12 : tdOf Try.prog 12 = .cell (.int .u64 0) := by kernel_rfl
@[simp] theorem bt12 : Try.prog.bytesOf 12 = 8 := by kernel_rfl
@[simp] theorem td13 : tdOf Try.prog 13 = .agg [.string ByteArray.empty, .int .u64 0] [(0, 1, 9), (1, 1, 12)] := by kernel_rfl
@[simp] theorem bt13 : Try.prog.bytesOf 13 = 24 := by kernel_rfl
@[simp] theorem td14 : tdOf Try.prog 14 = .agg [.string ByteArray.empty, .int .u64 0] [(0, 1, 9), (1, 1, 12)] := by kernel_rfl
@[simp] theorem bt14 : Try.prog.bytesOf 14 = 24 := by kernel_rfl
@[simp] theorem td15 : tdOf Try.prog 15 = .cell (.pointer none) := by kernel_rfl
@[simp] theorem bt15 : Try.prog.bytesOf 15 = 8 := by kernel_rfl
@[simp] theorem td16 : tdOf Try.prog 16 = .cell (.pointer none) := by kernel_rfl
@[simp] theorem bt16 : Try.prog.bytesOf 16 = 8 := by kernel_rfl
@[simp] theorem td17 : tdOf Try.prog 17 = .cell (.pointer none) := by kernel_rfl
@[simp] theorem bt17 : Try.prog.bytesOf 17 = 8 := by kernel_rfl
@[simp] theorem td18 : tdOf Try.prog 18 = .agg [.pointer none] [(0, 1, 17)] := by kernel_rfl
@[simp] theorem bt18 : Try.prog.bytesOf 18 = 8 := by kernel_rfl
@[simp] theorem td19 : tdOf Try.prog 19 = .agg [.pointer none] [(0, 1, 17)] := by kernel_rfl
@[simp] theorem bt19 : Try.prog.bytesOf 19 = 8 := by kernel_rfl
@[simp] theorem td20 : tdOf Try.prog 20 = .cell (.nilIface) := by kernel_rfl
@[simp] theorem bt20 : Try.prog.bytesOf 20 = 16 := by kernel_rfl
@[simp] theorem td21 : tdOf Try.prog 21 = .cell (.int .i32 0) := by kernel_rfl
@[simp] theorem bt21 : Try.prog.bytesOf 21 = 4 := by kernel_rfl
@[simp] theorem td22 : tdOf Try.prog 22 = .slice 68 := by kernel_rfl
@[simp] theorem bt22 : Try.prog.bytesOf 22 = 24 := by kernel_rfl
@[simp] theorem td23 : tdOf Try.prog 23 = .slice 24 := by kernel_rfl
@[simp] theorem bt23 : Try.prog.bytesOf 23 = 24 := by kernel_rfl
@[simp] theorem td24 : tdOf Try.prog 24 = .slice 3 := by kernel_rfl
@[simp] theorem bt24 : Try.prog.bytesOf 24 = 24 := by kernel_rfl
@[simp] theorem td25 : tdOf Try.prog 25 = .slice 101 := by kernel_rfl
@[simp] theorem bt25 : Try.prog.bytesOf 25 = 24 := by kernel_rfl
@[simp] theorem td26 : tdOf Try.prog 26 = .agg [.slice none 0 0, .slice none 0 0, .slice none 0 0, .slice none 0 0, .int .i64 0, .slice none 0 0] [(0, 1, 22), (1, 1, 23), (2, 1, 23), (3, 1, 24), (4, 1, 3), (5, 1, 25)] := by kernel_rfl
@[simp] theorem bt26 : Try.prog.bytesOf 26 = 128 := by kernel_rfl
@[simp] theorem td27 : tdOf Try.prog 27 = .agg [.slice none 0 0, .slice none 0 0, .slice none 0 0, .slice none 0 0, .int .i64 0, .slice none 0 0] [(0, 1, 22), (1, 1, 23), (2, 1, 23), (3, 1, 24), (4, 1, 3), (5, 1, 25)] := by kernel_rfl
@[simp] theorem bt27 : Try.prog.bytesOf 27 = 128 := by kernel_rfl
@[simp] theorem td28 : tdOf Try.prog 28 = .cell (.nilFunc) := by kernel_rfl
@[simp] theorem bt28 : Try.prog.bytesOf 28 = 8 := by kernel_rfl
@[simp] theorem td29 : tdOf Try.prog 29 = .cell (.nilFunc) := by kernel_rfl
@[simp] theorem bt29 : Try.prog.bytesOf 29 = 8 := by kernel_rfl
@[simp] theorem td30 : tdOf Try.prog 30 = .cell (.int .i64 0) := by kernel_rfl
@[simp] theorem bt30 : Try.prog.bytesOf 30 = 8 := by kernel_rfl
@[simp] theorem td32 : tdOf Try.prog 32 = .cell (.nilFunc) := by kernel_rfl
@[simp] theorem bt32 : Try.prog.bytesOf 32 = 8 := by kernel_rfl
@[simp] theorem td33 : tdOf Try.prog 33 = .agg [.int .i64 0, .slice none 0 0, .slice none 0 0] [(0, 1, 3), (1, 1, 24), (2, 1, 24)] := by kernel_rfl
@[simp] theorem bt33 : Try.prog.bytesOf 33 = 56 := by kernel_rfl
@[simp] theorem td34 : tdOf Try.prog 34 = .agg [.int .i64 0, .slice none 0 0, .slice none 0 0] [(0, 1, 3), (1, 1, 24), (2, 1, 24)] := by kernel_rfl
@[simp] theorem bt34 : Try.prog.bytesOf 34 = 56 := by kernel_rfl
@[simp] theorem td36 : tdOf Try.prog 36 = .cell (.nilFunc) := by kernel_rfl
@[simp] theorem bt36 : Try.prog.bytesOf 36 = 8 := by kernel_rfl
@[simp] theorem td37 : tdOf Try.prog 37 = .cell (.nilFunc) := by kernel_rfl
@[simp] theorem bt37 : Try.prog.bytesOf 37 = 8 := by kernel_rfl
@[simp] theorem td38 : tdOf Try.prog 38 = .cell (.nilFunc) := by kernel_rfl
@[simp] theorem bt38 : Try.prog.bytesOf 38 = 8 := by kernel_rfl
@[simp] theorem td39 : tdOf Try.prog 39 = .cell (.nilFunc) := by kernel_rfl
@[simp] theorem bt39 : Try.prog.bytesOf 39 = 8 := by kernel_rfl
@[simp] theorem td40 : tdOf Try.prog 40 = .cell (.nilFunc) := by kernel_rfl
@[simp] theorem bt40 : Try.prog.bytesOf 40 = 8 := by kernel_rfl
@[simp] theorem td41 : tdOf Try.prog 41 = .cell (.nilFunc) := by kernel_rfl
@[simp] theorem bt41 : Try.prog.bytesOf 41 = 8 := by kernel_rfl
@[simp] theorem td42 : tdOf Try.prog 42 = .cell (.nilFunc) := by kernel_rfl
@[simp] theorem bt42 : Try.prog.bytesOf 42 = 8 := by kernel_rfl
@[simp] theorem td43 : tdOf Try.prog 43 = .cell (.nilFunc) := by kernel_rfl
@[simp] theorem bt43 : Try.prog.bytesOf 43 = 8 := by kernel_rfl
@[simp] theorem td44 : tdOf Try.prog 44 = .slice 52 := by kernel_rfl
@[simp] theorem bt44 : Try.prog.bytesOf 44 = 24 := by kernel_rfl
@[simp] theorem td45 : tdOf Try.prog 45 = .cell (.nilFunc) := by kernel_rfl
@[simp] theorem bt45 : Try.prog.bytesOf 45 = 8 := by kernel_rfl
@[simp] theorem td46 : tdOf Try.prog 46 = .cell (.pointer none) := by kernel_rfl
@[simp] theorem bt46 : Try.prog.bytesOf 46 = 8 := by kernel_rfl
@[simp] theorem td48 : tdOf Try.prog 48 = .cell (.nilFunc) := by kernel_rfl
@[simp] theorem bt48 : Try.prog.bytesOf 48 = 8 := by kernel_rfl
@[simp] theorem td49 : tdOf Try.prog 49 = .cell (.pointer none) := by kernel_rfl
@[simp] theorem bt49 : Try.prog.bytesOf 49 = 8 := by kernel_rfl
@[simp] theorem td50 : tdOf Try.prog 50 = .cell (.nilFunc) := by kernel_rfl
@[simp] theorem bt50 : Try.prog.bytesOf 50 = 8 := by kernel_rfl
@[simp] theorem td51 : tdOf Try.prog 51 = .agg [.slice none 0 0, .slice none 0 0] [(0, 1, 24), (1, 1, 24)] := by kernel_rfl
@[simp] theorem bt51 : Try.prog.bytesOf 51 = 48 := by kernel_rfl
@[simp] theorem td52 : tdOf Try.prog 52 = .agg [.slice none 0 0, .slice none 0 0] [(0, 1, 24), (1, 1, 24)] := by kernel_rfl
@[simp] theorem bt52 : Try.prog.bytesOf 52 = 48 := by kernel_rfl
@[simp] theorem td53 : tdOf Try.prog 53 = .cell (.nilFunc) := by kernel_rfl
@[simp] theorem bt53 : Try.prog.bytesOf 53 = 8 := by kernel_rfl
@[simp] theorem td54 : tdOf Try.prog 54 = .cell (.nilFunc) := by kernel_rfl
@[simp] theorem bt54 : Try.prog.bytesOf 54 = 8 := by kernel_rfl
@[simp] theorem td56 : tdOf Try.prog 56 = .cell (.nilFunc) := by kernel_rfl
@[simp] theorem bt56 : Try.prog.bytesOf 56 = 8 := by kernel_rfl
@[simp] theorem td57 : tdOf Try.prog 57 = .slice 65 := by kernel_rfl
@[simp] theorem bt57 : Try.prog.bytesOf 57 = 24 := by kernel_rfl
@[simp] theorem td58 : tdOf Try.prog 58 = .agg [.slice none 0 0, .slice none 0 0, .slice none 0 0, .slice none 0 0, .int .i64 0, .slice none 0 0, .int .i64 0, .int .i64 0, .bool false, .int .i64 0, .slice none 0 0, .slice none 0 0] [(0, 6, 27), (6, 1, 3), (7, 1, 3), (8, 1, 4), (9, 1, 3), (10, 1, 57), (11, 1, 24)] := by kernel_rfl
@[simp] theorem bt58 : Try.prog.bytesOf 58 = 208 := by kernel_rfl
@[simp] theorem td59 : tdOf Try.prog 59 = .agg [.slice none 0 0, .slice none 0 0, .slice none 0 0, .slice none 0 0, .int .i64 0, .slice none 0 0, .int .i64 0, .int .i64 0, .bool false, .int .i64 0, .slice none 0 0, .slice none 0 0] [(0, 6, 27), (6, 1, 3), (7, 1, 3), (8, 1, 4), (9, 1, 3), (10, 1, 57), (11, 1, 24)] := by kernel_rfl
@[simp] theorem bt59 : Try.prog.bytesOf 59 = 208 := by kernel_rfl
@[simp] theorem td60 : tdOf Try.prog 60 = .cell (.nilFunc) := by kernel_rfl
@[simp] theorem bt60 : Try.prog.bytesOf 60 = 8 := by kernel_rfl
@[simp] theorem td61 : tdOf Try.prog 61 = .cell (.nilFunc) := by kernel_rfl
@[simp] theorem bt61 : Try.prog.bytesOf 61 = 8 := by kernel_rfl
@[simp] theorem td62 : tdOf Try.prog 62 = .cell (.nilFunc) := by kernel_rfl
@[simp] theorem bt62 : Try.prog.bytesOf 62 = 8 := by kernel_rfl
@[simp] theorem td63 : tdOf Try.prog 63 = .cell (.nilFunc) := by kernel_rfl
@[simp] theorem bt63 : Try.prog.bytesOf 63 = 8 := by kernel_rfl
@[simp] theorem td64 : tdOf Try.prog 64 = .agg [.bool false, .int .i64 0] [(0, 1, 4), (1, 1, 3)] := by kernel_rfl
@[simp] theorem bt64 : Try.prog.bytesOf 64 = 16 := by kernel_rfl
@[simp] theorem td65 : tdOf Try.prog 65 = .agg [.bool false, .int .i64 0] [(0, 1, 4), (1, 1, 3)] := by kernel_rfl
@[simp] theorem bt65 : Try.prog.bytesOf 65 = 16 := by kernel_rfl
@[simp] theorem td66 : tdOf Try.prog 66 = .cell (.int .i64 0) := by kernel_rfl
@[simp] theorem bt66 : Try.prog.bytesOf 66 = 8 := by kernel_rfl
@[simp] theorem td67 : tdOf Try.prog 67 = .agg [.int .i64 0, .int .i64 0] [(0, 1, 66), (1, 1, 3)] := by kernel_rfl
@[simp] theorem bt67 : Try.prog.bytesOf 67 = 16 := by kernel_rfl
@[simp] theorem td68 : tdOf Try.prog 68 = .agg [.int .i64 0, .int .i64 0] [(0, 1, 66), (1, 1, 3)] := by kernel_rfl
@[simp] theorem bt68 : Try.prog.bytesOf 68 = 16 := by kernel_rfl
@[simp] theorem td69 : tdOf Try.prog 69 = .cell (.nilFunc) := by kernel_rfl
@[simp] theorem bt69 : Try.prog.bytesOf 69 = 8 := by kernel_rfl
@[simp] theorem td71 : tdOf Try.prog 71 = .cell (.nilFunc) := by kernel_rfl
@[simp] theorem bt71 : Try.prog.bytesOf 71 = 8 := by kernel_rfl
@[simp] theorem td72 : tdOf Try.prog 72 = .cell (.nilFunc) := by kernel_rfl
@[simp] theorem bt72 : Try.prog.bytesOf 72 = 8 := by kernel_rfl
@[simp] theorem td73 : tdOf Try.prog 73 = .cell (.nilFunc) := by kernel_rfl
@[simp] theorem bt73 : Try.prog.bytesOf 73 = 8 := by kernel_rfl
@[simp] theorem td74 : tdOf Try.prog 74 = .cell (.nilFunc) := by kernel_rfl
@[simp] theorem bt74 : Try.prog.bytesOf 74 = 8 := by kernel_rfl
@[simp] theorem td75 : tdOf Try.prog 75 = .cell (.nilFunc) := by kernel_rfl
@[simp] theorem bt75 : Try.prog.bytesOf 75 = 8 := by kernel_rfl
@[simp] theorem td76 : tdOf Try.prog 76 = .cell (.nilFunc) := by kernel_rfl
@[simp] theorem bt76 : Try.prog.bytesOf 76 = 8 := by kernel_rfl
@[simp] theorem td77 : tdOf Try.prog 77 = .cell (.nilFunc) := by kernel_rfl
@[simp] theorem bt77 : Try.prog.bytesOf 77 = 8 := by kernel_rfl
@[simp] theorem td78 : tdOf Try.prog 78 = .cell (.nilFunc) := by kernel_rfl
@[simp] theorem bt78 : Try.prog.bytesOf 78 = 8 := by kernel_rfl
@[simp] theorem td79 : tdOf Try.prog 79 = .cell (.nilFunc) := by kernel_rfl
@[simp] theorem bt79 : Try.prog.bytesOf 79 = 8 := by kernel_rfl
@[simp] theorem td80 : tdOf Try.prog 80 = .cell (.nilFunc) := by kernel_rfl
@[simp] theorem bt80 : Try.prog.bytesOf 80 = 8 := by kernel_rfl
@[simp] theorem td81 : tdOf Try.prog 81 = .cell (.nilFunc) := by kernel_rfl
@[simp] theorem bt81 : Try.prog.bytesOf 81 = 8 := by kernel_rfl
@[simp] theorem td82 : tdOf Try.prog 82 = .agg [.slice none 0 0, .slice none 0 0, .slice none 0 0, .slice none 0 0, .int .i64 0, .slice none 0 0] [(0, 6, 27)] := by kernel_rfl
@[simp] theorem bt82 : Try.prog.bytesOf 82 = 128 := by kernel_rfl
@[simp] theorem td83 : tdOf Try.prog 83 = .agg [.slice none 0 0, .slice none 0 0, .slice none 0 0, .slice none 0 0, .int .i64 0, .slice none 0 0] [(0, 6, 27)] := by kernel_rfl
@[simp] theorem bt83 : Try.prog.bytesOf 83 = 128 := by kernel_rfl
@[simp] theorem td84 : tdOf Try.prog 84 = .cell (.nilFunc) := by kernel_rfl
@[simp] theorem bt84 : Try.prog.bytesOf 84 = 8 := by kernel_rfl
@[simp] theorem td85 : tdOf Try.prog 85 = .cell (.nilFunc) := by kernel_rfl
@[simp] theorem bt85 : Try.prog.bytesOf 85 = 8 := by kernel_rfl
@[simp] theorem td86 : tdOf Try.prog 86 = .agg [] [] := by kernel_rfl
@[simp] theorem bt86 : Try.prog.bytesOf 86 = 0 := by kernel_rfl
@[simp] theorem td87 : tdOf Try.prog 87 = .agg [] [] := by kernel_rfl
@[simp] theorem bt87 : Try.prog.bytesOf 87 = 0 := by kernel_rfl
@[simp] theorem td89 : tdOf Try.prog 89 = .cell (.nilFunc) := by kernel_rfl
@[simp] theorem bt89 : Try.prog.bytesOf 89 = 8 := by kernel_rfl
@[simp] theorem td90 : tdOf Try.prog 90 = .cell (.nilFunc) := by kernel_rfl
@[simp] theorem bt90 : Try.prog.bytesOf 90 = 8 := by kernel_rfl
@[simp] theorem td91 : tdOf Try.prog 91 = .cell (.nilFunc) := by kernel_rfl
@[simp] theorem bt91 : Try.prog.bytesOf 91 = 8 := by kernel_rfl
@[simp] theorem td92 : tdOf Try.prog 92 = .cell (.nilFunc) := by kernel_rfl
@[simp] theorem bt92 : Try.prog.bytesOf 92 = 8 := by kernel_rfl
@[simp] theorem td93 : tdOf Try.prog 93 = .cell (.nilFunc) := by kernel_rfl
@[simp] theorem bt93 : Try.prog.bytesOf 93 = 8 := by kernel_rfl
@[simp] theorem td94 : tdOf Try.prog 94 = .cell (.nilFunc) := by kernel_rfl
@[simp] theorem bt94 : Try.prog.bytesOf 94 = 8 := by kernel_rfl
@[simp] theorem td95 : tdOf Try.prog 95 = .cell (.nilFunc) := by kernel_rfl
@[simp] theorem bt95 : Try.prog.bytesOf 95 = 8 := by kernel_rfl
@[simp] theorem td96 : tdOf Try.prog 96 = .cell (.nilFunc) := by kernel_rfl
@[simp] theorem bt96 : Try.prog.bytesOf 96 = 8 := by kernel_rfl
@[simp] theorem td97 : tdOf Try.prog 97 = .slice 4 := by kernel_rfl
@[simp] theorem bt97 : Try.prog.bytesOf 97 = 24 := by kernel_rfl
@[simp] theorem td98 : tdOf Try.prog 98 = .agg [.int .i64 0, .bool false] [(0, 1, 3), (1, 1, 4)] := by kernel_rfl
@[simp] theorem bt98 : Try.prog.bytesOf 98 = 16 := by kernel_rfl
@[simp] theorem td99 : tdOf Try.prog 99 = .agg [.int .i64 0, .bool false] [(0, 1, 3), (1, 1, 4)] := by kernel_rfl
@[simp] theorem bt99 : Try.prog.bytesOf 99 = 16 := by kernel_rfl
@[simp] theorem td100 : tdOf Try.prog 100 = .agg [.int .i64 0, .bool false, .int .i64 0] [(0, 2, 99), (2, 1, 3)] := by kernel_rfl
@[simp] theorem bt100 : Try.prog.bytesOf 100 = 24 := by kernel_rfl
@[simp] theorem td101 : tdOf Try.prog 101 = .agg [.int .i64 0, .bool false, .int .i64 0] [(0, 2, 99), (2, 1, 3)] := by kernel_rfl
@[simp] theorem bt101 : Try.prog.bytesOf 101 = 24 := by kernel_rfl
@[simp] theorem td102 : tdOf Try.prog 102 = .cell (.nilFunc) := by kernel_rfl
@[simp] theorem bt102 : Try.prog.bytesOf 102 = 8 := by kernel_rfl
@[simp] theorem td103 : tdOf Try.prog 103 = .cell (.nilFunc) := by kernel_rfl
@[simp] theorem bt103 : Try.prog.bytesOf 103 = 8 := by kernel_rfl
@[simp] theorem td104 : tdOf Try.prog 104 = .slice 109 := by kernel_rfl
@[simp] theorem bt104 : Try.prog.bytesOf 104 = 24 := by kernel_rfl
@[simp] theorem td105 : tdOf Try.prog 105 = .cell (.map none) := by kernel_rfl
@[simp] theorem bt105 : Try.prog.bytesOf 105 = 8 := by kernel_rfl
@[simp] theorem td106 : tdOf Try.prog 106 = .agg [.slice none 0 0, .slice none 0 0, .slice none 0 0, .slice none 0 0, .int .i64 0, .slice none 0 0, .bool false, .int .i64 0, .int .i64 0, .bool false, .int .i64 0, .slice none 0 0, .slice none 0 0, .map none, .map none] [(0, 6, 83), (6, 1, 4), (7, 1, 3), (8, 1, 3), (9, 1, 4), (10, 1, 3), (11, 1, 104), (12, 1, 24), (13, 1, 105), (14, 1, 105)] := by kernel_rfl
@[simp] theorem bt106 : Try.prog.bytesOf 106 = 232 := by kernel_rfl
@[simp] theorem td107 : tdOf Try.prog 107 = .agg [.slice none 0 0, .slice none 0 0, .slice none 0 0, .slice none 0 0, .int .i64 0, .slice none 0 0, .bool false, .int .i64 0, .int .i64 0, .bool false, .int .i64 0, .slice none 0 0, .slice none 0 0, .map none, .map none] [(0, 6, 83), (6, 1, 4), (7, 1, 3), (8, 1, 3), (9, 1, 4), (10, 1, 3), (11, 1, 104), (12, 1, 24), (13, 1, 105), (14, 1, 105)] := by kernel_rfl
@[simp] theorem bt107 : Try.prog.bytesOf 107 = 232 := by kernel_rfl
@[simp] theorem td108 : tdOf Try.prog 108 = .agg [.bool false, .int .i64 0] [(0, 2, 65)] := by kernel_rfl
@[simp] theorem bt108 : Try.prog.bytesOf 108 = 16 := by kernel_rfl
@[simp] theorem td109 : tdOf Try.prog 109 = .agg [.bool false, .int .i64 0] [(0, 2, 65)] := by kernel_rfl
@[simp] theorem bt109 : Try.prog.bytesOf 109 = 16 := by kernel_rfl
@[simp] theorem td110 : tdOf Try.prog 110 = .cell (.nilFunc) := by kernel_rfl
@[simp] theorem bt110 : Try.prog.bytesOf 110 = 8 := by kernel_rfl
@[simp] theorem td111 : tdOf Try.prog 111 = .cell (.nilFunc) := by kernel_rfl
@[simp] theorem bt111 : Try.prog.bytesOf 111 = 8 := by kernel_rfl
@[simp] theorem td112 : tdOf Try.prog 112 = .cell (.nilFunc) := by kernel_rfl
@[simp] theorem bt112 : Try.prog.bytesOf 112 = 8 := by kernel_rfl
@[simp] theorem td113 : tdOf Try.prog 113 = .slice 29 := by kernel_rfl
@[simp] theorem bt113 : Try.prog.bytesOf 113 = 24 := by kernel_rfl
@[simp] theorem td114 : tdOf Try.prog 114 = .cell (.nilFunc) := by kernel_rfl
@[simp] theorem bt114 : Try.prog.bytesOf 114 = 8 := by kernel_rfl
@[simp] theorem td115 : tdOf Try.prog 115 = .cell (.nilFunc) := by kernel_rfl
@[simp] theorem bt115 : Try.prog.bytesOf 115 = 8 := by kernel_rfl
@[simp] theorem td116 : tdOf Try.prog 116 = .cell (.nilFunc) := by kernel_rfl
@[simp] theorem bt116 : Try.prog.bytesOf 116 = 8 := by kernel_rfl
@[simp] theorem td117 : tdOf Try.prog 117 = .arr [.nilFunc, .nilFunc, .nilFunc, .nilFunc] 4 29 := by kernel_rfl
@[simp] theorem bt117 : Try.prog.bytesOf 117 = 32 := by kernel_rfl
@[simp] theorem td118 : tdOf Try.prog 118 = .cell (.nilFunc) := by kernel_rfl
@[simp] theorem bt118 : Try.prog.bytesOf 118 = 8 := by kernel_rfl
@[simp] theorem td119 : tdOf Try.prog 119 = .cell (.nilFunc) := by kernel_rfl
@[simp] theorem bt119 : Try.prog.bytesOf 119 = 8 := by kernel_rfl
@[simp] theorem td120 : tdOf Try.prog 120 = .cell (.int .u64 0) := by kernel_rfl
@[simp] theorem bt120 : Try.prog.bytesOf 120 = 8 := by kernel_rfl
@[simp] theorem td121 : tdOf Try.prog 121 = .cell (.nilFunc) := by kernel_rfl
@[simp] theorem bt121 : Try.prog.bytesOf 121 = 8 := by kernel_rfl
@[simp] theorem td122 : tdOf Try.prog 122 = .cell (.nilFunc) := by kernel_rfl
@[simp] theorem bt122 : Try.prog.bytesOf 122 = 8 := by kernel_rfl
@[simp] theorem td123 : tdOf Try.prog 123 = .cell (.nilFunc) := by kernel_rfl
@[simp] theorem bt123 : Try.prog.bytesOf 123 = 8 := by kernel_rfl
@[simp] theorem td124 : tdOf Try.prog 124 = .cell (.nilFunc) := by kernel_rfl
@[simp] theorem bt124 : Try.prog.bytesOf 124 = 8 := by kernel_rfl
@[simp] theorem td125 : tdOf Try.prog 125 = .cell (.nilFunc) := by kernel_rfl
@[simp] theorem bt125 : Try.prog.bytesOf 125 = 8 := by kernel_rfl
@[simp] theorem td126 : tdOf Try.prog 126 = .cell (.nilFunc) := by kernel_rfl
@[simp] theorem bt126 : Try.prog.bytesOf 126 = 8 := by kernel_rfl
@[simp] theorem td127 : tdOf Try.prog 127 = .cell (.pointer none) := by kernel_rfl
@[simp] theorem bt127 : Try.prog.bytesOf 127 = 8 := by kernel_rfl
@[simp] theorem td128 : tdOf Try.prog 128 = .cell (.nilFunc) := by kernel_rfl
@[simp] theorem bt128 : Try.prog.bytesOf 128 = 8 := by kernel_rfl
@[simp] theorem td129 : tdOf Try.prog 129 = .cell (.nilFunc) := by kernel_rfl
@[simp] theorem bt129 : Try.prog.bytesOf 129 = 8 := by kernel_rfl
@[simp] theorem td130 : tdOf Try.prog 130 = .cell (.nilFunc) := by kernel_rfl
@[simp] theorem bt130 : Try.prog.bytesOf 130 = 8 := by kernel_rfl
@[simp] theorem td131 : tdOf Try.prog 131 = .cell (.map none) := by kernel_rfl
@[simp] theorem bt131 : Try.prog.bytesOf 131 = 8 := by kernel_rfl
@[simp] theorem td132 : tdOf Try.prog 132 = .cell (.nilFunc) := by kernel_rfl
@[simp] theorem bt132 : Try.prog.bytesOf 132 = 8 := by kernel_rfl
@[simp] theorem td133 : tdOf Try.prog 133 = .cell (.nilFunc) := by kernel_rfl
@[simp] theorem bt133 : Try.prog.bytesOf 133 = 8 := by kernel_rfl
@[simp] theorem td134 : tdOf Try.prog 134 = .cell (.nilFunc) := by kernel_rfl
@[simp] theorem bt134 : Try.prog.bytesOf 134 = 8 := by kernel_rfl
@[simp] theorem td135 : tdOf Try.prog 135 = .cell (.nilFunc) := by kernel_rfl
@[simp] theorem bt135 : Try.prog.bytesOf 135 = 8 := by kernel_rfl
@[simp] theorem td136 : tdOf Try.prog 136 = .cell (.nilFunc) := by kernel_rfl
@[simp] theorem bt136 : Try.prog.bytesOf 136 = 8 := by kernel_rfl
@[simp] theorem td137 : tdOf Try.prog 137 = .cell (.int .i64 0) := by kernel_rfl
@[simp] theorem bt137 : Try.prog.bytesOf 137 = 8 := by kernel_rfl
@[simp] theorem td139 : tdOf Try.prog 139 = .cell (.nilFunc) := by kernel_rfl
@[simp] theorem bt139 : Try.prog.bytesOf 139 = 8 := by kernel_rfl
@[simp] theorem td140 : tdOf Try.prog 140 = .cell (.nilFunc) := by kernel_rfl
@[simp] theorem bt140 : Try.prog.bytesOf 140 = 8 := by kernel_rfl
@[simp] theorem td141 : tdOf Try.prog 141 = .cell (.nilFunc) := by kernel_rfl
@[simp] theorem bt141 : Try.prog.bytesOf 141 = 8 := by kernel_rfl
@[simp] theorem td142 : tdOf Try.prog 142 = .cell (.nilFunc) := by kernel_rfl
@[simp] theorem bt142 : Try.prog.bytesOf 142 = 8 := by kernel_rfl
@[simp] theorem td143 : tdOf Try.prog 143 = .cell (.nilFunc) := by kernel_rfl
@[simp] theorem bt143 : Try.prog.bytesOf 143 = 8 := by kernel_rfl
@[simp] theorem td144 : tdOf Try.prog 144 = .cell (.int .u32 0) := by kernel_rfl
@[simp] theorem bt144 : Try.prog.bytesOf 144 = 4 := by kernel_rfl
@[simp] theorem td145 : tdOf Try.prog 145 = .cell (.nilFunc) := by kernel_rfl
@[simp] theorem bt145 : Try.prog.bytesOf 145 = 8 := by kernel_rfl
@[simp] theorem td146 : tdOf Try.prog 146 = .cell (.int .u64 0) := by kernel_rfl
@[simp] theorem bt146 : Try.prog.bytesOf 146 = 8 := by kernel_rfl
@[simp] theorem td147 : tdOf Try.prog 147 = .cell (.nilFunc) := by kernel_rfl
@[simp] theorem bt147 : Try.prog.bytesOf 147 = 8 := by kernel_rfl
@[simp] theorem td148 : tdOf Try.prog 148 = .cell (.int .u64 0) := by kernel_rfl
@[simp] theorem bt148 : Try.prog.bytesOf 148 = 8 := by kernel_rfl
@[simp] theorem td149 : tdOf Try.prog 149 = .cell (.nilFunc) := by kernel_rfl
@[simp] theorem bt149 : Try.prog.bytesOf 149 = 8 := by kernel_rfl
@[simp] theorem td150 : tdOf Try.prog 150 = .cell (.nilFunc) := by kernel_rfl
@[simp] theorem bt150 : Try.prog.bytesOf 150 = 8 := by kernel_rfl
@[simp] theorem td151 : tdOf Try.prog 151 = .cell (.nilFunc) := by kernel_rfl
@[simp] theorem bt151 : Try.prog.bytesOf 151 = 8 := by kernel_rfl
@[simp] theorem td152 : tdOf Try.prog 152 = .cell (.pointer none) := by kernel_rfl
@[simp] theorem bt152 : Try.prog.bytesOf 152 = 8 := by kernel_rfl
@[simp] theorem td153 : tdOf Try.prog 153 = .cell (.nilFunc) := by kernel_rfl
@[simp] theorem bt153 : Try.prog.bytesOf 153 = 8 := by kernel_rfl
@[simp] theorem td154 : tdOf Try.prog 154 = .cell (.pointer none) := by kernel_rfl
@[simp] theorem bt154 : Try.prog.bytesOf 154 = 8 := by kernel_rfl
@[simp] theorem td156 : tdOf Try.prog 156 = .cell (.nilFunc) := by kernel_rfl
@[simp] theorem bt156 : Try.prog.bytesOf 156 = 8 := by kernel_rfl
@[simp] theorem td157 : tdOf Try.prog 157 = .cell (.nilFunc) := by kernel_rfl
@[simp] theorem bt157 : Try.prog.bytesOf 157 = 8 := by kernel_rfl
@[simp] theorem td158 : tdOf Try.prog 158 = .agg [.pointer none, .pointer none, .pointer none, .string ByteArray.empty] [(0, 1, 17), (1, 1, 17), (2, 1, 17), (3, 1, 9)] := by kernel_rfl
@[simp] theorem bt158 : Try.prog.bytesOf 158 = 40 := by kernel_rfl
@[simp] theorem td159 : tdOf Try.prog 159 = .agg [.pointer none, .pointer none, .pointer none, .string ByteArray.empty] [(0, 1, 17), (1, 1, 17), (2, 1, 17), (3, 1, 9)] := by kernel_rfl
@[simp] theorem bt159 : Try.prog.bytesOf 159 = 40 := by kernel_rfl
@[simp] theorem td160 : tdOf Try.prog 160 = .arr [] 0 16 := by kernel_rfl
@[simp] theorem bt160 : Try.prog.bytesOf 160 = 0 := by kernel_rfl
@[simp] theorem td161 : tdOf Try.prog 161 = .agg [] [(0, 0, 160)] := by kernel_rfl
@[simp] theorem bt161 : Try.prog.bytesOf 161 = 0 := by kernel_rfl
@[simp] theorem td162 : tdOf Try.prog 162 = .agg [] [(0, 0, 160)] := by kernel_rfl
@[simp] theorem bt162 : Try.prog.bytesOf 162 = 0 := by kernel_rfl
@[simp] theorem td163 : tdOf Try.prog 163 = .cell (.int .u8 0) := by kernel_rfl
@[simp] theorem bt163 : Try.prog.bytesOf 163 = 1 := by kernel_rfl
@[simp] theorem td164 : tdOf Try.prog 164 = .cell (.int .u8 0) := by kernel_rfl
@[simp] theorem bt164 : Try.prog.bytesOf 164 = 1 := by kernel_rfl
@[simp] theorem td165 : tdOf Try.prog 165 = .cell (.nilFunc) := by kernel_rfl
@[simp] theorem bt165 : Try.prog.bytesOf 165 = 8 := by kernel_rfl
@[simp] theorem td166 : tdOf Try.prog 166 = .cell (.pointer none) := by kernel_rfl
@[simp] theorem bt166 : Try.prog.bytesOf 166 = 8 := by kernel_rfl
@[simp] theorem td167 : tdOf Try.prog 167 = .cell (.int .i32 0) := by kernel_rfl
@[simp] theorem bt167 : Try.prog.bytesOf 167 = 4 := by kernel_rfl
@[simp] theorem td168 : tdOf Try.prog 168 = .cell (.int .i32 0) := by kernel_rfl
@[simp] theorem bt168 : Try.prog.bytesOf 168 = 4 := by kernel_rfl
@[simp] theorem td169 : tdOf Try.prog 169 = .agg [.int .u64 0, .int .u64 0, .int .u32 0, .int .u8 0, .int .u8 0, .int .u8 0, .int .u8 0, .nilFunc, .pointer none, .int .i32 0, .int .i32 0] [(0, 1, 12), (1, 1, 12), (2, 1, 144), (3, 1, 163), (4, 1, 5), (5, 1, 5), (6, 1, 164), (7, 1, 165), (8, 1, 166), (9, 1, 167), (10, 1, 168)] := by kernel_rfl
@[simp] theorem bt169 : Try.prog.bytesOf 169 = 48 := by kernel_rfl
@[simp] theorem td170 : tdOf Try.prog 170 = .agg [.int .u64 0, .int .u64 0, .int .u32 0, .int .u8 0, .int .u8 0, .int .u8 0, .int .u8 0, .nilFunc, .pointer none, .int .i32 0, .int .i32 0] [(0, 1, 12), (1, 1, 12), (2, 1, 144), (3, 1, 163), (4, 1, 5), (5, 1, 5), (6, 1, 164), (7, 1, 165), (8, 1, 166), (9, 1, 167), (10, 1, 168)] := by kernel_rfl
@[simp] theorem bt170 : Try.prog.bytesOf 170 = 48 := by kernel_rfl
@[simp] theorem td171 : tdOf Try.prog 171 = .cell (.pointer none) := by kernel_rfl
@[simp] theorem bt171 : Try.prog.bytesOf 171 = 8 := by kernel_rfl
@[simp] theorem cb1 : concB Try.prog 1 = true := by kernel_rfl
@[simp] theorem cb2 : concB Try.prog 2 = true := by kernel_rfl
@[simp] theorem cb3 : concB Try.prog 3 = true := by kernel_rfl
@[simp] theorem cb4 : concB Try.prog 4 = true := by kernel_rfl
@[simp] theorem cb5 : concB Try.prog 5 = true := by kernel_rfl
@[simp] theorem cb6 : concB Try.prog 6 = true := by kernel_rfl
@[simp] theorem cb7 : concB Try.prog 7 = true := by kernel_rfl
@[simp] theorem cb8 : concB Try.prog 8 = true := by kernel_rfl
@[simp] theorem cb9 : concB Try.prog 9 = true := by kernel_rfl
@[simp] theorem cb10 : concB Try.prog 10 = true := by kernel_rfl
@[simp] theorem cb11 : concB Try.prog 11 = true := by kernel_rfl
@[simp] theorem cb12 : concB Try.prog 12 = true := by kernel_rfl
@[simp] theorem cb13 : concB Try.prog 13 = true := by kernel_rfl
@[simp] theorem cb14 : concB Try.prog 14 = true := by kernel_rfl
@[simp] theorem cb15 : concB Try.prog 15 = true := by kernel_rfl
@[simp] theorem cb16 : concB Try.prog 16 = true := by kernel_rfl
@[simp] theorem cb17 : concB Try.prog 17 = true := by kernel_rfl
@[simp] theorem cb18 : concB Try.prog 18 = true := by kernel_rfl
@[simp] theorem cb19 : concB Try.prog 19 = true := by kernel_rfl
@[simp] theorem cb20 : concB Try.prog 20 = false := by kernel_rfl
@[simp] theorem cb21 : concB Try.prog 21 = true := by kernel_rfl
@[simp] theorem nm22 : namedB Try.prog 22 = false := by kernel_rfl
@[simp] theorem cb22 : concB Try.prog 22 = true := by kernel_rfl
@[simp] theorem nm23 : namedB Try.prog 23 = false := by kernel_rfl
@[simp] theorem cb23 : concB Try.prog 23 = true := by kernel_rfl
@[simp] theorem nm24 : namedB Try.prog 24 = false := by kernel_rfl
@[simp] theorem cb24 : concB Try.prog 24 = true := by kernel_rfl
@[simp] theorem nm25 : namedB Try.prog 25 = false := by kernel_rfl
@[simp] theorem cb25 : concB Try.prog 25 = true := by kernel_rfl
@[simp] theorem cb26 : concB Try.prog 26 = true := by kernel_rfl
@[simp] theorem cb27 : concB Try.prog 27 = true := by kernel_rfl
@[simp] theorem cb28 : concB Try.prog 28 = true := by kernel_rfl
@[simp] theorem cb29 : concB Try.prog 29 = true := by kernel_rfl
@[simp] theorem cb30 : concB Try.prog 30 = true := by kernel_rfl
@[simp] theorem cb32 : concB Try.prog 32 = true := by kernel_rfl
@[simp] theorem cb33 : concB Try.prog 33 = true := by kernel_rfl
@[simp] theorem cb34 : concB Try.prog 34 = true := by kernel_rfl
@[simp] theorem cb36 : concB Try.prog 36 = true := by kernel_rfl
@[simp] theorem cb37 : concB Try.prog 37 = true := by kernel_rfl
@[simp] theorem cb38 : concB Try.prog 38 = true := by kernel_rfl
@[simp] theorem cb39 : concB Try.prog 39 = true := by kernel_rfl
@[simp] theorem cb40 : concB Try.prog 40 = true := by kernel_rfl
@[simp] theorem cb41 : concB Try.prog 41 = true := by kernel_rfl
@[simp] theorem cb42 : concB Try.prog 42 = true := by kernel_rfl
@[simp] theorem cb43 : concB Try.prog 43 = true := by kernel_rfl
@[simp] theorem nm44 : namedB Try.prog 44 = false := by kernel_rfl
@[simp] theorem cb44 : concB Try.prog 44 = true := by kernel_rfl
@[simp] theorem cb45 : concB Try.prog 45 = true := by kernel_rfl
@[simp] theorem cb46 : concB Try.prog 46 = true := by kernel_rfl
@[simp] theorem cb48 : concB Try.prog 48 = true := by kernel_rfl
@[simp] theorem cb49 : concB Try.prog 49 = true := by kernel_rfl
@[simp] theorem cb50 : concB Try.prog 50 = true := by kernel_rfl
@[simp] theorem cb51 : concB Try.prog 51 = true := by kernel_rfl
@[simp] theorem cb52 : concB Try.prog 52 = true := by kernel_rfl
@[simp] theorem cb53 : concB Try.prog 53 = true := by kernel_rfl
@[simp] theorem cb54 : concB Try.prog 54 = true := by kernel_rfl
@[simp] theorem cb56 : concB Try.prog 56 = true := by kernel_rfl
@[simp] theorem nm57 : namedB Try.prog 57 = false := by kernel_rfl
@[simp] theorem cb57 : concB Try.prog 57 = true := by kernel_rfl
@[simp] theorem cb58 : concB Try.prog 58 = true := by kernel_rfl
@[simp] theorem cb59 : concB Try.prog 59 = true := by kernel_rfl
@[simp] theorem cb60 : concB Try.prog 60 = true := by kernel_rfl
@[simp] theorem cb61 : concB Try.prog 61 = true := by kernel_rfl
@[simp] theorem cb62 : concB Try.prog 62 = true := by kernel_rfl
@[simp] theorem cb63 : concB Try.prog 63 = true := by kernel_rfl
@[simp] theorem cb64 : concB Try.prog 64 = true := by kernel_rfl
@[simp] theorem cb65 : concB Try.prog 65 = true := by kernel_rfl
@[simp] theorem cb66 : concB Try.prog 66 = true := by kernel_rfl
@[simp] theorem cb67 : concB Try.prog 67 = true := by kernel_rfl
@[simp] theorem cb68 : concB Try.prog 68 = true := by kernel_rfl
@[simp] theorem cb69 : concB Try.prog 69 = true := by kernel_rfl
@[simp] theorem cb71 : concB Try.prog 71 = true := by kernel_rfl
@[simp] theorem cb72 : concB Try.prog 72 = true := by kernel_rfl
@[simp] theorem cb73 : concB Try.prog 73 = true := by kernel_rfl
@[simp] theorem cb74 : concB Try.prog 74 = true := by kernel_rfl
@[simp] theorem cb75 : concB Try.prog 75 = true := by kernel_rfl
@[simp] theorem cb76 : concB Try.prog 76 = true := by kernel_rfl
@[simp] theorem cb77 : concB Try.prog 77 = true := by kernel_rfl
@[simp] theorem cb78 : concB Try.prog 78 = true := by kernel_rfl
@[simp] theorem cb79 : concB Try.prog 79 = true := by kernel_rfl
@[simp] theorem cb80 : concB Try.prog 80 = true := by kernel_rfl
@[simp] theorem cb81 : concB Try.prog 81 = true := by kernel_rfl
@[simp] theorem cb82 : concB Try.prog 82 = true := by kernel_rfl
@[simp] theorem cb83 : concB Try.prog 83 = true := by kernel_rfl
@[simp] theorem cb84 : concB Try.prog 84 = true := by kernel_rfl
@[simp] theorem cb85 : concB Try.prog 85 = true := by kernel_rfl
@[simp] theorem cb86 : concB Try.prog 86 = true := by kernel_rfl
@[simp] theorem cb87 : concB Try.prog 87 = true := by kernel_rfl
@[simp] theorem cb89 : concB Try.prog 89 = true := by kernel_rfl
@[simp] theorem cb90 : concB Try.prog 90 = true := by kernel_rfl
@[simp] theorem cb91 : concB Try.prog 91 = true := by kernel_rfl
@[simp] theorem cb92 : concB Try.prog 92 = true := by kernel_rfl
@[simp] theorem cb93 : concB Try.prog 93 = true := by kernel_rfl
@[simp] theorem cb94 : concB Try.prog 94 = true := by kernel_rfl
@[simp] theorem cb95 : concB Try.prog 95 = true := by kernel_rfl
@[simp] theorem cb96 : concB Try.prog 96 = true := by kernel_rfl
@[simp] theorem nm97 : namedB Try.prog 97 = false := by kernel_rfl
@[simp] theorem cb97 : concB Try.prog 97 = true := by kernel_rfl
@[simp] theorem cb98 : concB Try.prog 98 = true := by kernel_rfl
@[simp] theorem cb99 : concB Try.prog 99 = true := by kernel_rfl
@[simp] theorem cb100 : concB Try.prog 100 = true := by kernel_rfl
@[simp] theorem cb101 : concB Try.prog 101 = true := by kernel_rfl
@[simp] theorem cb102 : concB Try.prog 102 = true := by kernel_rfl
@[simp] theorem cb103 : concB Try.prog 103 = true := by kernel_rfl
@[simp] theorem nm104 : namedB Try.prog 104 = false := by kernel_rfl
@[simp] theorem cb104 : concB Try.prog 104 = true := by kernel_rfl
@[simp] theorem cb105 : concB Try.prog 105 = true := by kernel_rfl
@[simp] theorem cb106 : concB Try.prog 106 = true := by kernel_rfl
@[simp] theorem cb107 : concB Try.prog 107 = true := by kernel_rfl
@[simp] theorem cb108 : concB Try.prog 108 = true := by kernel_rfl
@[simp] theorem cb109 : concB Try.prog 109 = true := by kernel_rfl
@[simp] theorem cb110 : concB Try.prog 110 = true := by kernel_rfl
@[simp] theorem cb111 : concB Try.prog 111 = true := by kernel_rfl
@[simp] theorem cb112 : concB Try.prog 112 = true := by kernel_rfl
@[simp] theorem nm113 : namedB Try.prog 113 = false := by kernel_rfl
@[simp] theorem cb113 : concB Try.prog 113 = true := by kernel_rfl
@[simp] theorem cb114 : concB Try.prog 114 = true := by kernel_rfl
@[simp] theorem cb115 : concB Try.prog 115 = true := by kernel_rfl
@[simp] theorem cb116 : concB Try.prog 116 = true := by kernel_rfl
@[simp] theorem cb117 : concB Try.prog 117 = true := by kernel_rfl
@[simp] theorem cb118 : concB Try.prog 118 = true := by kernel_rfl
@[simp] theorem cb119 : concB Try.prog 119 = true := by kernel_rfl
@[simp] theorem cb120 : concB Try.prog 120 = true := by kernel_rfl
@[simp] theorem cb121 : concB Try.prog 121 = true := by kernel_rfl
@[simp] theorem cb122 : concB Try.prog 122 = true := by kernel_rfl
@[simp] theorem cb123 : concB Try.prog 123 = true := by kernel_rfl
@[simp] theorem cb124 : concB Try.prog 124 = true := by kernel_rfl
@[simp] theorem cb125 : concB Try.prog 125 = true := by kernel_rfl
@[simp] theorem cb126 : concB Try.prog 126 = true := by kernel_rfl
@[simp] theorem cb127 : concB Try.prog 127 = true := by kernel_rfl
@[simp] theorem cb128 : concB Try.prog 128 = true := by kernel_rfl
@[simp] theorem cb129 : concB Try.prog 129 = true := by kernel_rfl
@[simp] theorem cb130 : concB Try.prog 130 = true := by kernel_rfl
@[simp] theorem cb131 : concB Try.prog 131 = true := by kernel_rfl
@[simp] theorem cb132 : concB Try.prog 132 = true := by kernel_rfl
@[simp] theorem cb133 : concB Try.prog 133 = true := by kernel_rfl
@[simp] theorem cb134 : concB Try.prog 134 = true := by kernel_rfl
@[simp] theorem cb135 : concB Try.prog 135 = true := by kernel_rfl
@[simp] theorem cb136 : concB Try.prog 136 = true := by kernel_rfl
@[simp] theorem cb137 : concB Try.prog 137 = true := by kernel_rfl
@[simp] theorem cb139 : concB Try.prog 139 = true := by kernel_rfl
@[simp] theorem cb140 : concB Try.prog 140 = true := by kernel_rfl
@[simp] theorem cb141 : concB Try.prog 141 = true := by kernel_rfl
@[simp] theorem cb142 : concB Try.prog 142 = true := by kernel_rfl
@[simp] theorem cb143 : concB Try.prog 143 = true := by kernel_rfl
@[simp] theorem cb144 : concB Try.prog 144 = true := by kernel_rfl
@[simp] theorem cb145 : concB Try.prog 145 = true := by kernel_rfl
@[simp] theorem cb146 : concB Try.prog 146 = true := by kernel_rfl
@[simp] theorem cb147 : concB Try.prog 147 = true := by kernel_rfl
@[simp] theorem cb148 : concB Try.prog 148 = true := by kernel_rfl
@[simp] theorem cb149 : concB Try.prog 149 = true := by kernel_rfl
@[simp] theorem cb150 : concB Try.prog 150 = true := by kernel_rfl
@[simp] theorem cb151 : concB Try.prog 151 = true := by kernel_rfl
@[simp] theorem cb152 : concB Try.prog 152 = true := by kernel_rfl
@[simp] theorem cb153 : concB Try.prog 153 = true := by kernel_rfl
@[simp] theorem cb154 : concB Try.prog 154 = true := by kernel_rfl
@[simp] theorem cb156 : concB Try.prog 156 = true := by kernel_rfl
@[simp] theorem cb157 : concB Try.prog 157 = true := by kernel_rfl
@[simp] theorem cb158 : concB Try.prog 158 = true := by kernel_rfl
@[simp] theorem cb159 : concB Try.prog 159 = true := by kernel_rfl
@[simp] theorem cb160 : concB Try.prog 160 = true := by kernel_rfl
@[simp] theorem cb161 : concB Try.prog 161 = true := by kernel_rfl
@[simp] theorem cb162 : concB Try.prog 162 = true := by kernel_rfl
@[simp] theorem cb163 : concB Try.prog 163 = true := by kernel_rfl
@[simp] theorem cb164 : concB Try.prog 164 = true := by kernel_rfl
@[simp] theorem cb165 : concB Try.prog 165 = true := by kernel_rfl
@[simp] theorem cb166 : concB Try.prog 166 = true := by kernel_rfl
@[simp] theorem cb167 : concB Try.prog 167 = true := by kernel_rfl
@[simp] theorem cb168 : concB Try.prog 168 = true := by kernel_rfl
@[simp] theorem cb169 : concB Try.prog 169 = true := by kernel_rfl
@[simp] theorem cb170 : concB Try.prog 170 = true := by kernel_rfl
@[simp] theorem cb171 : concB Try.prog 171 = true := by kernel_rfl
@[simp] theorem kt2 : ktOf Try.prog 2 = some (.i .i64) := by kernel_rfl
@[simp] theorem kt3 : ktOf Try.prog 3 = some (.i .i64) := by kernel_rfl
@[simp] theorem kt4 : ktOf Try.prog 4 = some (.b) := by kernel_rfl
@[simp] theorem kt5 : ktOf Try.prog 5 = some (.i .u8) := by kernel_rfl
@[simp] theorem kt6 : ktOf Try.prog 6 = some (.i .u8) := by kernel_rfl
@[simp] theorem sk7 : skOf Try.prog 7 = some [.i .i64, .i .i64, .b, .i .u8] := by kernel_rfl
@[simp] theorem sk8 : skOf Try.prog 8 = some [.i .i64, .i .i64, .b, .i .u8] := by kernel_rfl
@[simp] theorem kt12 : ktOf Try.prog 12 = some (.i .u64) := by kernel_rfl
@[simp] theorem kt21 : ktOf Try.prog 21 = some (.i .i32) := by kernel_rfl
@[simp] theorem kt30 : ktOf Try.prog 30 = some (.i .i64) := by kernel_rfl
@[simp] theorem sk64 : skOf Try.prog 64 = some [.b, .i .i64] := by kernel_rfl
@[simp] theorem sk65 : skOf Try.prog 65 = some [.b, .i .i64] := by kernel_rfl
@[simp] theorem kt66 : ktOf Try.prog 66 = some (.i .i64) := by kernel_rfl
@[simp] theorem sk67 : skOf Try.prog 67 = some [.i .i64, .i .i64] := by kernel_rfl
@[simp] theorem sk68 : skOf Try.prog 68 = some [.i .i64, .i .i64] := by kernel_rfl
@[simp] theorem sk98 : skOf Try.prog 98 = some [.i .i64, .b] := by kernel_rfl
@[simp] theorem sk99 : skOf Try.prog 99 = some [.i .i64, .b] := by kernel_rfl
@[simp] theorem mk105 : mkOf Try.prog 105 = some (false, [.i .i64], .bool false) := by kernel_rfl
@[simp] theorem kt120 : ktOf Try.prog 120 = some (.i .u64) := by kernel_rfl
@[simp] theorem mk131 : mkOf Try.prog 131 = some (true, [.i .i64, .b], .bool false) := by kernel_rfl
@[simp] theorem kt137 : ktOf Try.prog 137 = some (.i .i64) := by kernel_rfl
@[simp] theorem kt144 : ktOf Try.prog 144 = some (.i .u32) := by kernel_rfl
@[simp] theorem kt146 : ktOf Try.prog 146 = some (.i .u64) := by kernel_rfl
@[simp] theorem kt148 : ktOf Try.prog 148 = some (.i .u64) := by kernel_rfl
@[simp] theorem kt163 : ktOf Try.prog 163 = some (.i .u8) := by kernel_rfl
@[simp] theorem kt164 : ktOf Try.prog 164 = some (.i .u8) := by kernel_rfl
@[simp] theorem kt167 : ktOf Try.prog 167 = some (.i .i32) := by kernel_rfl
@[simp] theorem kt168 : ktOf Try.prog 168 = some (.i .i32) := by kernel_rfl
theorem mixed : Try.prog.follows .mixedOrders = true := by kernel_rfl
end Go.AM
