/- What the types of this seat are to the abstract machine. No condition. Printed by tds.py. -/
import Derived.Test.YtdabjdajemiagaaGreatProg
import Derived.Test.YtdabjdajemiagaaGreatGC
namespace Go.AM
open Go.Proofs
@[simp] theorem td1 : tdOf Tryz.prog 1 = .cell (.nilFunc) := by kernel_rfl
@[simp] theorem bt1 : Tryz.prog.bytesOf 1 = 8 := by kernel_rfl
@[simp] theorem td2 : tdOf Tryz.prog 2 = .cell (.int .i64 0) := by kernel_rfl
@[simp] theorem bt2 : Tryz.prog.bytesOf 2 = 8 := by kernel_rfl
@[simp] theorem td3 : tdOf Tryz.prog 3 = .cell (.int .i64 0) := by kernel_rfl
@[simp] theorem bt3 : Tryz.prog.bytesOf 3 = 8 := by kernel_rfl
@[simp] theorem td4 : tdOf Tryz.prog 4 = .cell (.bool false) := by kernel_rfl
@[simp] theorem bt4 : Tryz.prog.bytesOf 4 = 1 := by kernel_rfl
@[simp] theorem td5 : tdOf Tryz.prog 5 = .cell (.int .u8 0) := by kernel_rfl
@[simp] theorem bt5 : Tryz.prog.bytesOf 5 = 1 := by kernel_rfl
@[simp] theorem td6 : tdOf Tryz.prog 6 = .cell (.int .u8 0) := by kernel_rfl
@[simp] theorem bt6 : Tryz.prog.bytesOf 6 = 1 := by kernel_rfl
@[simp] theorem td7 : tdOf Tryz.prog 7 = .agg [.int .i64 0, .int .i64 0, .bool false, .int .u8 0] [(0, 1, 2), (1, 1, 3), (2, 1, 4), (3, 1, 6)] := by kernel_rfl
@[simp] theorem bt7 : Tryz.prog.bytesOf 7 = 24 := by kernel_rfl
@[simp] theorem td8 : tdOf Tryz.prog 8 = .agg [.int .i64 0, .int .i64 0, .bool false, .int .u8 0] [(0, 1, 2), (1, 1, 3), (2, 1, 4), (3, 1, 6)] := by kernel_rfl
@[simp] theorem bt8 : Tryz.prog.bytesOf 8 = 24 := by kernel_rfl
@[simp] theorem td9 : tdOf Tryz.prog 9 = .cell (.string ByteArray.empty) := by kernel_rfl
@[simp] theorem bt9 : Tryz.prog.bytesOf 9 = 16 := by kernel_rfl
@[simp] theorem td10 : tdOf Tryz.prog 10 = .cell (.string ByteArray.empty) := by kernel_rfl
@[simp] theorem bt10 : Tryz.prog.bytesOf 10 = 16 := by kernel_rfl
@[simp] theorem td11 : tdOf Tryz.prog 11 = .cell (.string ByteArray.empty) := by kernel_rfl
@[simp] theorem bt11 : Tryz.prog.bytesOf 11 = 16 := by kernel_rfl
@[simp] theorem td12 : tdOf Tryz.prog 12 = .cell (.int .u64 0) := by kernel_rfl
@[simp] theorem bt12 : Tryz.prog.bytesOf 12 = 8 := by kernel_rfl
@[simp] theorem td13 : tdOf Tryz.prog 13 = .agg [.string ByteArray.empty, .int .u64 0] [(0, 1, 9), (1, 1, 12)] := by kernel_rfl
@[simp] theorem bt13 : Tryz.prog.bytesOf 13 = 24 := by kernel_rfl
@[simp] theorem td14 : tdOf Tryz.prog 14 = .agg [.string ByteArray.empty, .int .u64 0] [(0, 1, 9), (1, 1, 12)] := by kernel_rfl
@[simp] theorem bt14 : Tryz.prog.bytesOf 14 = 24 := by kernel_rfl
@[simp] theorem td15 : tdOf Tryz.prog 15 = .cell (.pointer none) := by kernel_rfl
@[simp] theorem bt15 : Tryz.prog.bytesOf 15 = 8 := by kernel_rfl
@[simp] theorem td16 : tdOf Tryz.prog 16 = .cell (.pointer none) := by kernel_rfl
@[simp] theorem bt16 : Tryz.prog.bytesOf 16 = 8 := by kernel_rfl
@[simp] theorem td17 : tdOf Tryz.prog 17 = .cell (.pointer none) := by kernel_rfl
@[simp] theorem bt17 : Tryz.prog.bytesOf 17 = 8 := by kernel_rfl
@[simp] theorem td18 : tdOf Tryz.prog 18 = .agg [.pointer none] [(0, 1, 17)] := by kernel_rfl
@[simp] theorem bt18 : Tryz.prog.bytesOf 18 = 8 := by kernel_rfl
@[simp] theorem td19 : tdOf Tryz.prog 19 = .agg [.pointer none] [(0, 1, 17)] := by kernel_rfl
@[simp] theorem bt19 : Tryz.prog.bytesOf 19 = 8 := by kernel_rfl
@[simp] theorem td20 : tdOf Tryz.prog 20 = .cell (.nilIface) := by kernel_rfl
@[simp] theorem bt20 : Tryz.prog.bytesOf 20 = 16 := by kernel_rfl
@[simp] theorem td21 : tdOf Tryz.prog 21 = .cell (.int .i32 0) := by kernel_rfl
@[simp] theorem bt21 : Tryz.prog.bytesOf 21 = 4 := by kernel_rfl
@[simp] theorem td22 : tdOf Tryz.prog 22 = .slice 53 := by kernel_rfl
@[simp] theorem bt22 : Tryz.prog.bytesOf 22 = 24 := by kernel_rfl
@[simp] theorem td23 : tdOf Tryz.prog 23 = .slice 47 := by kernel_rfl
@[simp] theorem bt23 : Tryz.prog.bytesOf 23 = 24 := by kernel_rfl
@[simp] theorem td24 : tdOf Tryz.prog 24 = .agg [.slice none 0 0, .slice none 0 0] [(0, 1, 22), (1, 1, 23)] := by kernel_rfl
@[simp] theorem bt24 : Tryz.prog.bytesOf 24 = 48 := by kernel_rfl
@[simp] theorem td25 : tdOf Tryz.prog 25 = .agg [.slice none 0 0, .slice none 0 0] [(0, 1, 22), (1, 1, 23)] := by kernel_rfl
@[simp] theorem bt25 : Tryz.prog.bytesOf 25 = 48 := by kernel_rfl
@[simp] theorem td26 : tdOf Tryz.prog 26 = .agg [.int .i64 0, .bool false] [(0, 1, 3), (1, 1, 4)] := by kernel_rfl
@[simp] theorem bt26 : Tryz.prog.bytesOf 26 = 16 := by kernel_rfl
@[simp] theorem td27 : tdOf Tryz.prog 27 = .agg [.int .i64 0, .bool false] [(0, 1, 3), (1, 1, 4)] := by kernel_rfl
@[simp] theorem bt27 : Tryz.prog.bytesOf 27 = 16 := by kernel_rfl
@[simp] theorem td28 : tdOf Tryz.prog 28 = .cell (.nilFunc) := by kernel_rfl
@[simp] theorem bt28 : Tryz.prog.bytesOf 28 = 8 := by kernel_rfl
@[simp] theorem td29 : tdOf Tryz.prog 29 = .cell (.nilFunc) := by kernel_rfl
@[simp] theorem bt29 : Tryz.prog.bytesOf 29 = 8 := by kernel_rfl
@[simp] theorem td30 : tdOf Tryz.prog 30 = .slice 27 := by kernel_rfl
@[simp] theorem bt30 : Tryz.prog.bytesOf 30 = 24 := by kernel_rfl
@[simp] theorem td31 : tdOf Tryz.prog 31 = .cell (.int .i64 0) := by kernel_rfl
@[simp] theorem bt31 : Tryz.prog.bytesOf 31 = 8 := by kernel_rfl
@[simp] theorem td33 : tdOf Tryz.prog 33 = .cell (.nilFunc) := by kernel_rfl
@[simp] theorem bt33 : Tryz.prog.bytesOf 33 = 8 := by kernel_rfl
@[simp] theorem td35 : tdOf Tryz.prog 35 = .cell (.nilFunc) := by kernel_rfl
@[simp] theorem bt35 : Tryz.prog.bytesOf 35 = 8 := by kernel_rfl
@[simp] theorem td36 : tdOf Tryz.prog 36 = .agg [.int .i64 0, .int .i64 0] [(0, 1, 3), (1, 1, 3)] := by kernel_rfl
@[simp] theorem bt36 : Tryz.prog.bytesOf 36 = 16 := by kernel_rfl
@[simp] theorem td37 : tdOf Tryz.prog 37 = .agg [.int .i64 0, .int .i64 0] [(0, 1, 3), (1, 1, 3)] := by kernel_rfl
@[simp] theorem bt37 : Tryz.prog.bytesOf 37 = 16 := by kernel_rfl
@[simp] theorem td39 : tdOf Tryz.prog 39 = .cell (.nilFunc) := by kernel_rfl
@[simp] theorem bt39 : Tryz.prog.bytesOf 39 = 8 := by kernel_rfl
@[simp] theorem td40 : tdOf Tryz.prog 40 = .cell (.nilFunc) := by kernel_rfl
@[simp] theorem bt40 : Tryz.prog.bytesOf 40 = 8 := by kernel_rfl
@[simp] theorem td41 : tdOf Tryz.prog 41 = .cell (.nilFunc) := by kernel_rfl
@[simp] theorem bt41 : Tryz.prog.bytesOf 41 = 8 := by kernel_rfl
@[simp] theorem td43 : tdOf Tryz.prog 43 = .cell (.nilFunc) := by kernel_rfl
@[simp] theorem bt43 : Tryz.prog.bytesOf 43 = 8 := by kernel_rfl
@[simp] theorem td44 : tdOf Tryz.prog 44 = .cell (.nilFunc) := by kernel_rfl
@[simp] theorem bt44 : Tryz.prog.bytesOf 44 = 8 := by kernel_rfl
@[simp] theorem td45 : tdOf Tryz.prog 45 = .slice 49 := by kernel_rfl
@[simp] theorem bt45 : Tryz.prog.bytesOf 45 = 24 := by kernel_rfl
@[simp] theorem td46 : tdOf Tryz.prog 46 = .agg [.int .i64 0, .int .i64 0, .slice none 0 0, .int .i64 0, .int .i64 0] [(0, 1, 3), (1, 1, 3), (2, 1, 45), (3, 1, 3), (4, 1, 3)] := by kernel_rfl
@[simp] theorem bt46 : Tryz.prog.bytesOf 46 = 56 := by kernel_rfl
@[simp] theorem td47 : tdOf Tryz.prog 47 = .agg [.int .i64 0, .int .i64 0, .slice none 0 0, .int .i64 0, .int .i64 0] [(0, 1, 3), (1, 1, 3), (2, 1, 45), (3, 1, 3), (4, 1, 3)] := by kernel_rfl
@[simp] theorem bt47 : Tryz.prog.bytesOf 47 = 56 := by kernel_rfl
@[simp] theorem td48 : tdOf Tryz.prog 48 = .agg [.int .i64 0, .int .i64 0] [(0, 1, 3), (1, 1, 3)] := by kernel_rfl
@[simp] theorem bt48 : Tryz.prog.bytesOf 48 = 16 := by kernel_rfl
@[simp] theorem td49 : tdOf Tryz.prog 49 = .agg [.int .i64 0, .int .i64 0] [(0, 1, 3), (1, 1, 3)] := by kernel_rfl
@[simp] theorem bt49 : Tryz.prog.bytesOf 49 = 16 := by kernel_rfl
@[simp] theorem td50 : tdOf Tryz.prog 50 = .cell (.int .i64 0) := by kernel_rfl
@[simp] theorem bt50 : Tryz.prog.bytesOf 50 = 8 := by kernel_rfl
@[simp] theorem td51 : tdOf Tryz.prog 51 = .slice 111 := by kernel_rfl
@[simp] theorem bt51 : Tryz.prog.bytesOf 51 = 24 := by kernel_rfl
@[simp] theorem td52 : tdOf Tryz.prog 52 = .agg [.int .i64 0, .int .i64 0, .int .i64 0, .slice none 0 0, .int .i64 0] [(0, 2, 49), (2, 1, 50), (3, 1, 51), (4, 1, 3)] := by kernel_rfl
@[simp] theorem bt52 : Tryz.prog.bytesOf 52 = 56 := by kernel_rfl
@[simp] theorem td53 : tdOf Tryz.prog 53 = .agg [.int .i64 0, .int .i64 0, .int .i64 0, .slice none 0 0, .int .i64 0] [(0, 2, 49), (2, 1, 50), (3, 1, 51), (4, 1, 3)] := by kernel_rfl
@[simp] theorem bt53 : Tryz.prog.bytesOf 53 = 56 := by kernel_rfl
@[simp] theorem td54 : tdOf Tryz.prog 54 = .cell (.nilFunc) := by kernel_rfl
@[simp] theorem bt54 : Tryz.prog.bytesOf 54 = 8 := by kernel_rfl
@[simp] theorem td55 : tdOf Tryz.prog 55 = .cell (.nilFunc) := by kernel_rfl
@[simp] theorem bt55 : Tryz.prog.bytesOf 55 = 8 := by kernel_rfl
@[simp] theorem td56 : tdOf Tryz.prog 56 = .slice 3 := by kernel_rfl
@[simp] theorem bt56 : Tryz.prog.bytesOf 56 = 24 := by kernel_rfl
@[simp] theorem td58 : tdOf Tryz.prog 58 = .cell (.nilFunc) := by kernel_rfl
@[simp] theorem bt58 : Tryz.prog.bytesOf 58 = 8 := by kernel_rfl
@[simp] theorem td60 : tdOf Tryz.prog 60 = .cell (.nilFunc) := by kernel_rfl
@[simp] theorem bt60 : Tryz.prog.bytesOf 60 = 8 := by kernel_rfl
@[simp] theorem td61 : tdOf Tryz.prog 61 = .cell (.nilFunc) := by kernel_rfl
@[simp] theorem bt61 : Tryz.prog.bytesOf 61 = 8 := by kernel_rfl
@[simp] theorem td62 : tdOf Tryz.prog 62 = .cell (.nilFunc) := by kernel_rfl
@[simp] theorem bt62 : Tryz.prog.bytesOf 62 = 8 := by kernel_rfl
@[simp] theorem td63 : tdOf Tryz.prog 63 = .slice 37 := by kernel_rfl
@[simp] theorem bt63 : Tryz.prog.bytesOf 63 = 24 := by kernel_rfl
@[simp] theorem td65 : tdOf Tryz.prog 65 = .cell (.nilFunc) := by kernel_rfl
@[simp] theorem bt65 : Tryz.prog.bytesOf 65 = 8 := by kernel_rfl
@[simp] theorem td66 : tdOf Tryz.prog 66 = .slice 73 := by kernel_rfl
@[simp] theorem bt66 : Tryz.prog.bytesOf 66 = 24 := by kernel_rfl
@[simp] theorem td68 : tdOf Tryz.prog 68 = .cell (.nilFunc) := by kernel_rfl
@[simp] theorem bt68 : Tryz.prog.bytesOf 68 = 8 := by kernel_rfl
@[simp] theorem td69 : tdOf Tryz.prog 69 = .cell (.nilFunc) := by kernel_rfl
@[simp] theorem bt69 : Tryz.prog.bytesOf 69 = 8 := by kernel_rfl
@[simp] theorem td70 : tdOf Tryz.prog 70 = .cell (.nilFunc) := by kernel_rfl
@[simp] theorem bt70 : Tryz.prog.bytesOf 70 = 8 := by kernel_rfl
@[simp] theorem td71 : tdOf Tryz.prog 71 = .cell (.nilFunc) := by kernel_rfl
@[simp] theorem bt71 : Tryz.prog.bytesOf 71 = 8 := by kernel_rfl
@[simp] theorem td72 : tdOf Tryz.prog 72 = .agg [.int .i64 0, .int .i64 0, .int .i64 0] [(0, 1, 3), (1, 1, 3), (2, 1, 3)] := by kernel_rfl
@[simp] theorem bt72 : Tryz.prog.bytesOf 72 = 24 := by kernel_rfl
@[simp] theorem td73 : tdOf Tryz.prog 73 = .agg [.int .i64 0, .int .i64 0, .int .i64 0] [(0, 1, 3), (1, 1, 3), (2, 1, 3)] := by kernel_rfl
@[simp] theorem bt73 : Tryz.prog.bytesOf 73 = 24 := by kernel_rfl
@[simp] theorem td74 : tdOf Tryz.prog 74 = .cell (.nilFunc) := by kernel_rfl
@[simp] theorem bt74 : Tryz.prog.bytesOf 74 = 8 := by kernel_rfl
@[simp] theorem td75 : tdOf Tryz.prog 75 = .cell (.nilFunc) := by kernel_rfl
@[simp] theorem bt75 : Tryz.prog.bytesOf 75 = 8 := by kernel_rfl
@[simp] theorem td76 : tdOf Tryz.prog 76 = .cell (.nilFunc) := by kernel_rfl
@[simp] theorem bt76 : Tryz.prog.bytesOf 76 = 8 := by kernel_rfl
@[simp] theorem td77 : tdOf Tryz.prog 77 = .cell (.nilFunc) := by kernel_rfl
@[simp] theorem bt77 : Tryz.prog.bytesOf 77 = 8 := by kernel_rfl
@[simp] theorem td78 : tdOf Tryz.prog 78 = .cell (.nilFunc) := by kernel_rfl
@[simp] theorem bt78 : Tryz.prog.bytesOf 78 = 8 := by kernel_rfl
@[simp] theorem td79 : tdOf Tryz.prog 79 = .cell (.nilFunc) := by kernel_rfl
@[simp] theorem bt79 : Tryz.prog.bytesOf 79 = 8 := by kernel_rfl
@[simp] theorem td80 : tdOf Tryz.prog 80 = .cell (.nilFunc) := by kernel_rfl
@[simp] theorem bt80 : Tryz.prog.bytesOf 80 = 8 := by kernel_rfl
@[simp] theorem td81 : tdOf Tryz.prog 81 = .slice 4 := by kernel_rfl
@[simp] theorem bt81 : Tryz.prog.bytesOf 81 = 24 := by kernel_rfl
@[simp] theorem td83 : tdOf Tryz.prog 83 = .cell (.nilFunc) := by kernel_rfl
@[simp] theorem bt83 : Tryz.prog.bytesOf 83 = 8 := by kernel_rfl
@[simp] theorem td84 : tdOf Tryz.prog 84 = .cell (.nilFunc) := by kernel_rfl
@[simp] theorem bt84 : Tryz.prog.bytesOf 84 = 8 := by kernel_rfl
@[simp] theorem td85 : tdOf Tryz.prog 85 = .cell (.nilFunc) := by kernel_rfl
@[simp] theorem bt85 : Tryz.prog.bytesOf 85 = 8 := by kernel_rfl
@[simp] theorem td86 : tdOf Tryz.prog 86 = .cell (.nilFunc) := by kernel_rfl
@[simp] theorem bt86 : Tryz.prog.bytesOf 86 = 8 := by kernel_rfl
@[simp] theorem td87 : tdOf Tryz.prog 87 = .cell (.nilFunc) := by kernel_rfl
@[simp] theorem bt87 : Tryz.prog.bytesOf 87 = 8 := by kernel_rfl
@[simp] theorem td88 : tdOf Tryz.prog 88 = .cell (.nilFunc) := by kernel_rfl
@[simp] theorem bt88 : Tryz.prog.bytesOf 88 = 8 := by kernel_rfl
@[simp] theorem td89 : tdOf Tryz.prog 89 = .cell (.nilFunc) := by kernel_rfl
@[simp] theorem bt89 : Tryz.prog.bytesOf 89 = 8 := by kernel_rfl
@[simp] theorem td90 : tdOf Tryz.prog 90 = .cell (.nilFunc) := by kernel_rfl
@[simp] theorem bt90 : Tryz.prog.bytesOf 90 = 8 := by kernel_rfl
@[simp] theorem td91 : tdOf Tryz.prog 91 = .cell (.nilFunc) := by kernel_rfl
@[simp] theorem bt91 : Tryz.prog.bytesOf 91 = 8 := by kernel_rfl
@[simp] theorem td92 : tdOf Tryz.prog 92 = .slice 30 := by kernel_rfl
@[simp] theorem bt92 : Tryz.prog.bytesOf 92 = 24 := by kernel_rfl
@[simp] theorem td94 : tdOf Tryz.prog 94 = .cell (.nilFunc) := by kernel_rfl
@[simp] theorem bt94 : Tryz.prog.bytesOf 94 = 8 := by kernel_rfl
@[simp] theorem td95 : tdOf Tryz.prog 95 = .cell (.nilFunc) := by kernel_rfl
@[simp] theorem bt95 : Tryz.prog.bytesOf 95 = 8 := by kernel_rfl
@[simp] theorem td96 : tdOf Tryz.prog 96 = .cell (.nilFunc) := by kernel_rfl
@[simp] theorem bt96 : Tryz.prog.bytesOf 96 = 8 := by kernel_rfl
@[simp] theorem td97 : tdOf Tryz.prog 97 = .cell (.nilFunc) := by kernel_rfl
@[simp] theorem bt97 : Tryz.prog.bytesOf 97 = 8 := by kernel_rfl
@[simp] theorem td98 : tdOf Tryz.prog 98 = .cell (.nilFunc) := by kernel_rfl
@[simp] theorem bt98 : Tryz.prog.bytesOf 98 = 8 := by kernel_rfl
@[simp] theorem td99 : tdOf Tryz.prog 99 = .cell (.pointer none) := by kernel_rfl
@[simp] theorem bt99 : Tryz.prog.bytesOf 99 = 8 := by kernel_rfl
@[simp] theorem td101 : tdOf Tryz.prog 101 = .cell (.nilFunc) := by kernel_rfl
@[simp] theorem bt101 : Tryz.prog.bytesOf 101 = 8 := by kernel_rfl
@[simp] theorem td102 : tdOf Tryz.prog 102 = .cell (.nilFunc) := by kernel_rfl
@[simp] theorem bt102 : Tryz.prog.bytesOf 102 = 8 := by kernel_rfl
@[simp] theorem td103 : tdOf Tryz.prog 103 = .cell (.nilFunc) := by kernel_rfl
@[simp] theorem bt103 : Tryz.prog.bytesOf 103 = 8 := by kernel_rfl
@[simp] theorem td104 : tdOf Tryz.prog 104 = .cell (.nilFunc) := by kernel_rfl
@[simp] theorem bt104 : Tryz.prog.bytesOf 104 = 8 := by kernel_rfl
@[simp] theorem td105 : tdOf Tryz.prog 105 = .cell (.nilFunc) := by kernel_rfl
@[simp] theorem bt105 : Tryz.prog.bytesOf 105 = 8 := by kernel_rfl
@[simp] theorem td106 : tdOf Tryz.prog 106 = .cell (.nilFunc) := by kernel_rfl
@[simp] theorem bt106 : Tryz.prog.bytesOf 106 = 8 := by kernel_rfl
@[simp] theorem td107 : tdOf Tryz.prog 107 = .cell (.nilFunc) := by kernel_rfl
@[simp] theorem bt107 : Tryz.prog.bytesOf 107 = 8 := by kernel_rfl
@[simp] theorem td108 : tdOf Tryz.prog 108 = .cell (.nilFunc) := by kernel_rfl
@[simp] theorem bt108 : Tryz.prog.bytesOf 108 = 8 := by kernel_rfl
@[simp] theorem td109 : tdOf Tryz.prog 109 = .cell (.nilFunc) := by kernel_rfl
@[simp] theorem bt109 : Tryz.prog.bytesOf 109 = 8 := by kernel_rfl
@[simp] theorem td110 : tdOf Tryz.prog 110 = .agg [.int .i64 0, .bool false] [(0, 1, 3), (1, 1, 4)] := by kernel_rfl
@[simp] theorem bt110 : Tryz.prog.bytesOf 110 = 16 := by kernel_rfl
@[simp] theorem td111 : tdOf Tryz.prog 111 = .agg [.int .i64 0, .bool false] [(0, 1, 3), (1, 1, 4)] := by kernel_rfl
@[simp] theorem bt111 : Tryz.prog.bytesOf 111 = 16 := by kernel_rfl
@[simp] theorem td112 : tdOf Tryz.prog 112 = .cell (.nilFunc) := by kernel_rfl
@[simp] theorem bt112 : Tryz.prog.bytesOf 112 = 8 := by kernel_rfl
@[simp] theorem td113 : tdOf Tryz.prog 113 = .cell (.nilFunc) := by kernel_rfl
@[simp] theorem bt113 : Tryz.prog.bytesOf 113 = 8 := by kernel_rfl
@[simp] theorem td114 : tdOf Tryz.prog 114 = .cell (.nilFunc) := by kernel_rfl
@[simp] theorem bt114 : Tryz.prog.bytesOf 114 = 8 := by kernel_rfl
@[simp] theorem td115 : tdOf Tryz.prog 115 = .cell (.nilFunc) := by kernel_rfl
@[simp] theorem bt115 : Tryz.prog.bytesOf 115 = 8 := by kernel_rfl
@[simp] theorem td116 : tdOf Tryz.prog 116 = .cell (.nilFunc) := by kernel_rfl
@[simp] theorem bt116 : Tryz.prog.bytesOf 116 = 8 := by kernel_rfl
@[simp] theorem td117 : tdOf Tryz.prog 117 = .cell (.nilFunc) := by kernel_rfl
@[simp] theorem bt117 : Tryz.prog.bytesOf 117 = 8 := by kernel_rfl
@[simp] theorem td118 : tdOf Tryz.prog 118 = .cell (.nilFunc) := by kernel_rfl
@[simp] theorem bt118 : Tryz.prog.bytesOf 118 = 8 := by kernel_rfl
@[simp] theorem td119 : tdOf Tryz.prog 119 = .cell (.nilFunc) := by kernel_rfl
@[simp] theorem bt119 : Tryz.prog.bytesOf 119 = 8 := by kernel_rfl
@[simp] theorem td121 : tdOf Tryz.prog 121 = .cell (.nilFunc) := by kernel_rfl
@[simp] theorem bt121 : Tryz.prog.bytesOf 121 = 8 := by kernel_rfl
@[simp] theorem td122 : tdOf Tryz.prog 122 = .cell (.nilFunc) := by kernel_rfl
@[simp] theorem bt122 : Tryz.prog.bytesOf 122 = 8 := by kernel_rfl
@[simp] theorem td123 : tdOf Tryz.prog 123 = .cell (.nilFunc) := by kernel_rfl
@[simp] theorem bt123 : Tryz.prog.bytesOf 123 = 8 := by kernel_rfl
@[simp] theorem td124 : tdOf Tryz.prog 124 = .cell (.map none) := by kernel_rfl
@[simp] theorem bt124 : Tryz.prog.bytesOf 124 = 8 := by kernel_rfl
@[simp] theorem td125 : tdOf Tryz.prog 125 = .agg [.slice none 0 0, .slice none 0 0, .slice none 0 0, .map none] [(0, 2, 25), (2, 1, 56), (3, 1, 124)] := by kernel_rfl
@[simp] theorem bt125 : Tryz.prog.bytesOf 125 = 80 := by kernel_rfl
@[simp] theorem td126 : tdOf Tryz.prog 126 = .agg [.slice none 0 0, .slice none 0 0, .slice none 0 0, .map none] [(0, 2, 25), (2, 1, 56), (3, 1, 124)] := by kernel_rfl
@[simp] theorem bt126 : Tryz.prog.bytesOf 126 = 80 := by kernel_rfl
@[simp] theorem td127 : tdOf Tryz.prog 127 = .cell (.nilFunc) := by kernel_rfl
@[simp] theorem bt127 : Tryz.prog.bytesOf 127 = 8 := by kernel_rfl
@[simp] theorem td128 : tdOf Tryz.prog 128 = .cell (.nilFunc) := by kernel_rfl
@[simp] theorem bt128 : Tryz.prog.bytesOf 128 = 8 := by kernel_rfl
@[simp] theorem td129 : tdOf Tryz.prog 129 = .cell (.nilFunc) := by kernel_rfl
@[simp] theorem bt129 : Tryz.prog.bytesOf 129 = 8 := by kernel_rfl
@[simp] theorem td130 : tdOf Tryz.prog 130 = .cell (.nilFunc) := by kernel_rfl
@[simp] theorem bt130 : Tryz.prog.bytesOf 130 = 8 := by kernel_rfl
@[simp] theorem td131 : tdOf Tryz.prog 131 = .cell (.nilFunc) := by kernel_rfl
@[simp] theorem bt131 : Tryz.prog.bytesOf 131 = 8 := by kernel_rfl
@[simp] theorem td132 : tdOf Tryz.prog 132 = .cell (.nilFunc) := by kernel_rfl
@[simp] theorem bt132 : Tryz.prog.bytesOf 132 = 8 := by kernel_rfl
@[simp] theorem td133 : tdOf Tryz.prog 133 = .cell (.map none) := by kernel_rfl
@[simp] theorem bt133 : Tryz.prog.bytesOf 133 = 8 := by kernel_rfl
@[simp] theorem td134 : tdOf Tryz.prog 134 = .slice 81 := by kernel_rfl
@[simp] theorem bt134 : Tryz.prog.bytesOf 134 = 24 := by kernel_rfl
@[simp] theorem td135 : tdOf Tryz.prog 135 = .cell (.nilFunc) := by kernel_rfl
@[simp] theorem bt135 : Tryz.prog.bytesOf 135 = 8 := by kernel_rfl
@[simp] theorem td136 : tdOf Tryz.prog 136 = .cell (.pointer none) := by kernel_rfl
@[simp] theorem bt136 : Tryz.prog.bytesOf 136 = 8 := by kernel_rfl
@[simp] theorem td137 : tdOf Tryz.prog 137 = .slice 141 := by kernel_rfl
@[simp] theorem bt137 : Tryz.prog.bytesOf 137 = 24 := by kernel_rfl
@[simp] theorem td138 : tdOf Tryz.prog 138 = .slice 141 := by kernel_rfl
@[simp] theorem bt138 : Tryz.prog.bytesOf 138 = 24 := by kernel_rfl
@[simp] theorem td139 : tdOf Tryz.prog 139 = .cell (.nilFunc) := by kernel_rfl
@[simp] theorem bt139 : Tryz.prog.bytesOf 139 = 8 := by kernel_rfl
@[simp] theorem td140 : tdOf Tryz.prog 140 = .agg [.slice none 0 0, .int .i64 0, .int .i64 0] [(0, 1, 30), (1, 1, 3), (2, 1, 3)] := by kernel_rfl
@[simp] theorem bt140 : Tryz.prog.bytesOf 140 = 40 := by kernel_rfl
@[simp] theorem td141 : tdOf Tryz.prog 141 = .agg [.slice none 0 0, .int .i64 0, .int .i64 0] [(0, 1, 30), (1, 1, 3), (2, 1, 3)] := by kernel_rfl
@[simp] theorem bt141 : Tryz.prog.bytesOf 141 = 40 := by kernel_rfl
@[simp] theorem td142 : tdOf Tryz.prog 142 = .cell (.nilFunc) := by kernel_rfl
@[simp] theorem bt142 : Tryz.prog.bytesOf 142 = 8 := by kernel_rfl
@[simp] theorem td143 : tdOf Tryz.prog 143 = .cell (.nilFunc) := by kernel_rfl
@[simp] theorem bt143 : Tryz.prog.bytesOf 143 = 8 := by kernel_rfl
@[simp] theorem td144 : tdOf Tryz.prog 144 = .cell (.nilFunc) := by kernel_rfl
@[simp] theorem bt144 : Tryz.prog.bytesOf 144 = 8 := by kernel_rfl
@[simp] theorem td145 : tdOf Tryz.prog 145 = .cell (.nilFunc) := by kernel_rfl
@[simp] theorem bt145 : Tryz.prog.bytesOf 145 = 8 := by kernel_rfl
@[simp] theorem td146 : tdOf Tryz.prog 146 = .cell (.nilFunc) := by kernel_rfl
@[simp] theorem bt146 : Tryz.prog.bytesOf 146 = 8 := by kernel_rfl
@[simp] theorem td147 : tdOf Tryz.prog 147 = .cell (.nilFunc) := by kernel_rfl
@[simp] theorem bt147 : Tryz.prog.bytesOf 147 = 8 := by kernel_rfl
@[simp] theorem td148 : tdOf Tryz.prog 148 = .cell (.nilFunc) := by kernel_rfl
@[simp] theorem bt148 : Tryz.prog.bytesOf 148 = 8 := by kernel_rfl
@[simp] theorem td149 : tdOf Tryz.prog 149 = .cell (.nilFunc) := by kernel_rfl
@[simp] theorem bt149 : Tryz.prog.bytesOf 149 = 8 := by kernel_rfl
@[simp] theorem td150 : tdOf Tryz.prog 150 = .cell (.nilFunc) := by kernel_rfl
@[simp] theorem bt150 : Tryz.prog.bytesOf 150 = 8 := by kernel_rfl
@[simp] theorem td151 : tdOf Tryz.prog 151 = .agg [.int .i64 0, .int .i64 0, .int .i64 0, .slice none 0 0, .int .i64 0] [(0, 5, 53)] := by kernel_rfl
@[simp] theorem bt151 : Tryz.prog.bytesOf 151 = 56 := by kernel_rfl
@[simp] theorem td152 : tdOf Tryz.prog 152 = .agg [.int .i64 0, .int .i64 0, .int .i64 0, .slice none 0 0, .int .i64 0] [(0, 5, 53)] := by kernel_rfl
@[simp] theorem bt152 : Tryz.prog.bytesOf 152 = 56 := by kernel_rfl
@[simp] theorem td153 : tdOf Tryz.prog 153 = .cell (.nilFunc) := by kernel_rfl
@[simp] theorem bt153 : Tryz.prog.bytesOf 153 = 8 := by kernel_rfl
@[simp] theorem td154 : tdOf Tryz.prog 154 = .cell (.nilFunc) := by kernel_rfl
@[simp] theorem bt154 : Tryz.prog.bytesOf 154 = 8 := by kernel_rfl
@[simp] theorem td155 : tdOf Tryz.prog 155 = .cell (.nilFunc) := by kernel_rfl
@[simp] theorem bt155 : Tryz.prog.bytesOf 155 = 8 := by kernel_rfl
@[simp] theorem td156 : tdOf Tryz.prog 156 = .cell (.pointer none) := by kernel_rfl
@[simp] theorem bt156 : Tryz.prog.bytesOf 156 = 8 := by kernel_rfl
@[simp] theorem td157 : tdOf Tryz.prog 157 = .agg [.int .i64 0, .int .i64 0, .int .i64 0] [(0, 1, 3), (1, 1, 3), (2, 1, 3)] := by kernel_rfl
@[simp] theorem bt157 : Tryz.prog.bytesOf 157 = 24 := by kernel_rfl
@[simp] theorem td158 : tdOf Tryz.prog 158 = .agg [.int .i64 0, .int .i64 0, .int .i64 0] [(0, 1, 3), (1, 1, 3), (2, 1, 3)] := by kernel_rfl
@[simp] theorem bt158 : Tryz.prog.bytesOf 158 = 24 := by kernel_rfl
@[simp] theorem td159 : tdOf Tryz.prog 159 = .slice 158 := by kernel_rfl
@[simp] theorem bt159 : Tryz.prog.bytesOf 159 = 24 := by kernel_rfl
@[simp] theorem td160 : tdOf Tryz.prog 160 = .slice 158 := by kernel_rfl
@[simp] theorem bt160 : Tryz.prog.bytesOf 160 = 24 := by kernel_rfl
@[simp] theorem td161 : tdOf Tryz.prog 161 = .cell (.nilIface) := by kernel_rfl
@[simp] theorem bt161 : Tryz.prog.bytesOf 161 = 16 := by kernel_rfl
@[simp] theorem td162 : tdOf Tryz.prog 162 = .cell (.nilIface) := by kernel_rfl
@[simp] theorem bt162 : Tryz.prog.bytesOf 162 = 16 := by kernel_rfl
@[simp] theorem td163 : tdOf Tryz.prog 163 = .cell (.nilFunc) := by kernel_rfl
@[simp] theorem bt163 : Tryz.prog.bytesOf 163 = 8 := by kernel_rfl
@[simp] theorem td164 : tdOf Tryz.prog 164 = .cell (.nilFunc) := by kernel_rfl
@[simp] theorem bt164 : Tryz.prog.bytesOf 164 = 8 := by kernel_rfl
@[simp] theorem td165 : tdOf Tryz.prog 165 = .cell (.nilFunc) := by kernel_rfl
@[simp] theorem bt165 : Tryz.prog.bytesOf 165 = 8 := by kernel_rfl
@[simp] theorem td166 : tdOf Tryz.prog 166 = .cell (.nilFunc) := by kernel_rfl
@[simp] theorem bt166 : Tryz.prog.bytesOf 166 = 8 := by kernel_rfl
@[simp] theorem td167 : tdOf Tryz.prog 167 = .cell (.nilFunc) := by kernel_rfl
@[simp] theorem bt167 : Tryz.prog.bytesOf 167 = 8 := by kernel_rfl
@[simp] theorem td168 : tdOf Tryz.prog 168 = .arr [.int .i64 0, .int .i64 0, .int .i64 0, .int .i64 0, .int .i64 0, .int .i64 0, .int .i64 0] 7 3 := by kernel_rfl
@[simp] theorem bt168 : Tryz.prog.bytesOf 168 = 56 := by kernel_rfl
@[simp] theorem td169 : tdOf Tryz.prog 169 = .cell (.nilFunc) := by kernel_rfl
@[simp] theorem bt169 : Tryz.prog.bytesOf 169 = 8 := by kernel_rfl
@[simp] theorem td170 : tdOf Tryz.prog 170 = .cell (.nilFunc) := by kernel_rfl
@[simp] theorem bt170 : Tryz.prog.bytesOf 170 = 8 := by kernel_rfl
@[simp] theorem td171 : tdOf Tryz.prog 171 = .cell (.nilIface) := by kernel_rfl
@[simp] theorem bt171 : Tryz.prog.bytesOf 171 = 16 := by kernel_rfl
@[simp] theorem td172 : tdOf Tryz.prog 172 = .cell (.nilIface) := by kernel_rfl
@[simp] theorem bt172 : Tryz.prog.bytesOf 172 = 16 := by kernel_rfl
@[simp] theorem td173 : tdOf Tryz.prog 173 = .cell (.nilFunc) := by kernel_rfl
@[simp] theorem bt173 : Tryz.prog.bytesOf 173 = 8 := by kernel_rfl
@[simp] theorem td174 : tdOf Tryz.prog 174 = .cell (.nilFunc) := by kernel_rfl
@[simp] theorem bt174 : Tryz.prog.bytesOf 174 = 8 := by kernel_rfl
@[simp] theorem td175 : tdOf Tryz.prog 175 = .cell (.nilFunc) := by kernel_rfl
@[simp] theorem bt175 : Tryz.prog.bytesOf 175 = 8 := by kernel_rfl
@[simp] theorem td176 : tdOf Tryz.prog 176 = .cell (.nilFunc) := by kernel_rfl
@[simp] theorem bt176 : Tryz.prog.bytesOf 176 = 8 := by kernel_rfl
@[simp] theorem td177 : tdOf Tryz.prog 177 = .cell (.nilFunc) := by kernel_rfl
@[simp] theorem bt177 : Tryz.prog.bytesOf 177 = 8 := by kernel_rfl
@[simp] theorem td178 : tdOf Tryz.prog 178 = .cell (.nilFunc) := by kernel_rfl
@[simp] theorem bt178 : Tryz.prog.bytesOf 178 = 8 := by kernel_rfl
@[simp] theorem td179 : tdOf Tryz.prog 179 = .cell (.nilFunc) := by kernel_rfl
@[simp] theorem bt179 : Tryz.prog.bytesOf 179 = 8 := by kernel_rfl
@[simp] theorem td180 : tdOf Tryz.prog 180 = .cell (.nilFunc) := by kernel_rfl
@[simp] theorem bt180 : Tryz.prog.bytesOf 180 = 8 := by kernel_rfl
@[simp] theorem td181 : tdOf Tryz.prog 181 = .arr [.nilFunc, .nilFunc, .nilFunc, .nilFunc, .nilFunc, .nilFunc, .nilFunc] 7 180 := by kernel_rfl
@[simp] theorem bt181 : Tryz.prog.bytesOf 181 = 56 := by kernel_rfl
@[simp] theorem td182 : tdOf Tryz.prog 182 = .cell (.nilFunc) := by kernel_rfl
@[simp] theorem bt182 : Tryz.prog.bytesOf 182 = 8 := by kernel_rfl
@[simp] theorem td183 : tdOf Tryz.prog 183 = .cell (.nilFunc) := by kernel_rfl
@[simp] theorem bt183 : Tryz.prog.bytesOf 183 = 8 := by kernel_rfl
@[simp] theorem td184 : tdOf Tryz.prog 184 = .cell (.int .u64 0) := by kernel_rfl
@[simp] theorem bt184 : Tryz.prog.bytesOf 184 = 8 := by kernel_rfl
@[simp] theorem td185 : tdOf Tryz.prog 185 = .cell (.nilFunc) := by kernel_rfl
@[simp] theorem bt185 : Tryz.prog.bytesOf 185 = 8 := by kernel_rfl
@[simp] theorem td186 : tdOf Tryz.prog 186 = .slice 45 := by kernel_rfl
@[simp] theorem bt186 : Tryz.prog.bytesOf 186 = 24 := by kernel_rfl
@[simp] theorem td187 : tdOf Tryz.prog 187 = .cell (.nilFunc) := by kernel_rfl
@[simp] theorem bt187 : Tryz.prog.bytesOf 187 = 8 := by kernel_rfl
@[simp] theorem td188 : tdOf Tryz.prog 188 = .cell (.float .f64 0) := by kernel_rfl
@[simp] theorem bt188 : Tryz.prog.bytesOf 188 = 8 := by kernel_rfl
@[simp] theorem td189 : tdOf Tryz.prog 189 = .cell (.nilFunc) := by kernel_rfl
@[simp] theorem bt189 : Tryz.prog.bytesOf 189 = 8 := by kernel_rfl
@[simp] theorem td190 : tdOf Tryz.prog 190 = .cell (.nilFunc) := by kernel_rfl
@[simp] theorem bt190 : Tryz.prog.bytesOf 190 = 8 := by kernel_rfl
@[simp] theorem td191 : tdOf Tryz.prog 191 = .cell (.int .i64 0) := by kernel_rfl
@[simp] theorem bt191 : Tryz.prog.bytesOf 191 = 8 := by kernel_rfl
@[simp] theorem td193 : tdOf Tryz.prog 193 = .cell (.nilFunc) := by kernel_rfl
@[simp] theorem bt193 : Tryz.prog.bytesOf 193 = 8 := by kernel_rfl
@[simp] theorem td194 : tdOf Tryz.prog 194 = .cell (.nilFunc) := by kernel_rfl
@[simp] theorem bt194 : Tryz.prog.bytesOf 194 = 8 := by kernel_rfl
@[simp] theorem td195 : tdOf Tryz.prog 195 = .cell (.nilFunc) := by kernel_rfl
@[simp] theorem bt195 : Tryz.prog.bytesOf 195 = 8 := by kernel_rfl
@[simp] theorem td197 : tdOf Tryz.prog 197 = .cell (.nilFunc) := by kernel_rfl
@[simp] theorem bt197 : Tryz.prog.bytesOf 197 = 8 := by kernel_rfl
@[simp] theorem td198 : tdOf Tryz.prog 198 = .cell (.nilFunc) := by kernel_rfl
@[simp] theorem bt198 : Tryz.prog.bytesOf 198 = 8 := by kernel_rfl
@[simp] theorem td199 : tdOf Tryz.prog 199 = .cell (.int .u32 0) := by kernel_rfl
@[simp] theorem bt199 : Tryz.prog.bytesOf 199 = 4 := by kernel_rfl
@[simp] theorem td200 : tdOf Tryz.prog 200 = .cell (.nilFunc) := by kernel_rfl
@[simp] theorem bt200 : Tryz.prog.bytesOf 200 = 8 := by kernel_rfl
@[simp] theorem td201 : tdOf Tryz.prog 201 = .cell (.int .u64 0) := by kernel_rfl
@[simp] theorem bt201 : Tryz.prog.bytesOf 201 = 8 := by kernel_rfl
@[simp] theorem td202 : tdOf Tryz.prog 202 = .cell (.int .u64 0) := by kernel_rfl
@[simp] theorem bt202 : Tryz.prog.bytesOf 202 = 8 := by kernel_rfl
@[simp] theorem td203 : tdOf Tryz.prog 203 = .cell (.nilFunc) := by kernel_rfl
@[simp] theorem bt203 : Tryz.prog.bytesOf 203 = 8 := by kernel_rfl
@[simp] theorem td204 : tdOf Tryz.prog 204 = .cell (.nilFunc) := by kernel_rfl
@[simp] theorem bt204 : Tryz.prog.bytesOf 204 = 8 := by kernel_rfl
@[simp] theorem td205 : tdOf Tryz.prog 205 = .cell (.nilFunc) := by kernel_rfl
@[simp] theorem bt205 : Tryz.prog.bytesOf 205 = 8 := by kernel_rfl
@[simp] theorem td206 : tdOf Tryz.prog 206 = .cell (.pointer none) := by kernel_rfl
@[simp] theorem bt206 : Tryz.prog.bytesOf 206 = 8 := by kernel_rfl
@[simp] theorem td207 : tdOf Tryz.prog 207 = .cell (.nilFunc) := by kernel_rfl
@[simp] theorem bt207 : Tryz.prog.bytesOf 207 = 8 := by kernel_rfl
@[simp] theorem td208 : tdOf Tryz.prog 208 = .cell (.pointer none) := by kernel_rfl
@[simp] theorem bt208 : Tryz.prog.bytesOf 208 = 8 := by kernel_rfl
@[simp] theorem td210 : tdOf Tryz.prog 210 = .cell (.nilFunc) := by kernel_rfl
@[simp] theorem bt210 : Tryz.prog.bytesOf 210 = 8 := by kernel_rfl
@[simp] theorem td211 : tdOf Tryz.prog 211 = .cell (.nilFunc) := by kernel_rfl
@[simp] theorem bt211 : Tryz.prog.bytesOf 211 = 8 := by kernel_rfl
@[simp] theorem td212 : tdOf Tryz.prog 212 = .agg [.pointer none, .pointer none, .pointer none, .string ByteArray.empty] [(0, 1, 17), (1, 1, 17), (2, 1, 17), (3, 1, 9)] := by kernel_rfl
@[simp] theorem bt212 : Tryz.prog.bytesOf 212 = 40 := by kernel_rfl
@[simp] theorem td213 : tdOf Tryz.prog 213 = .agg [.pointer none, .pointer none, .pointer none, .string ByteArray.empty] [(0, 1, 17), (1, 1, 17), (2, 1, 17), (3, 1, 9)] := by kernel_rfl
@[simp] theorem bt213 : Tryz.prog.bytesOf 213 = 40 := by kernel_rfl
@[simp] theorem td214 : tdOf Tryz.prog 214 = .arr [] 0 16 := by kernel_rfl
@[simp] theorem bt214 : Tryz.prog.bytesOf 214 = 0 := by kernel_rfl
@[simp] theorem td215 : tdOf Tryz.prog 215 = .agg [] [(0, 0, 214)] := by kernel_rfl
@[simp] theorem bt215 : Tryz.prog.bytesOf 215 = 0 := by kernel_rfl
@[simp] theorem td216 : tdOf Tryz.prog 216 = .agg [] [(0, 0, 214)] := by kernel_rfl
@[simp] theorem bt216 : Tryz.prog.bytesOf 216 = 0 := by kernel_rfl
@[simp] theorem td217 : tdOf Tryz.prog 217 = .cell (.int .u8 0) := by kernel_rfl
@[simp] theorem bt217 : Tryz.prog.bytesOf 217 = 1 := by kernel_rfl
@[simp] theorem td218 : tdOf Tryz.prog 218 = .cell (.int .u8 0) := by kernel_rfl
@[simp] theorem bt218 : Tryz.prog.bytesOf 218 = 1 := by kernel_rfl
@[simp] theorem td219 : tdOf Tryz.prog 219 = .cell (.nilFunc) := by kernel_rfl
@[simp] theorem bt219 : Tryz.prog.bytesOf 219 = 8 := by kernel_rfl
@[simp] theorem td220 : tdOf Tryz.prog 220 = .cell (.pointer none) := by kernel_rfl
@[simp] theorem bt220 : Tryz.prog.bytesOf 220 = 8 := by kernel_rfl
@[simp] theorem td221 : tdOf Tryz.prog 221 = .cell (.int .i32 0) := by kernel_rfl
@[simp] theorem bt221 : Tryz.prog.bytesOf 221 = 4 := by kernel_rfl
@[simp] theorem td222 : tdOf Tryz.prog 222 = .cell (.int .i32 0) := by kernel_rfl
@[simp] theorem bt222 : Tryz.prog.bytesOf 222 = 4 := by kernel_rfl
@[simp] theorem td223 : tdOf Tryz.prog 223 = .agg [.int .u64 0, .int .u64 0, .int .u32 0, .int .u8 0, .int .u8 0, .int .u8 0, .int .u8 0, .nilFunc, .pointer none, .int .i32 0, .int .i32 0] [(0, 1, 12), (1, 1, 12), (2, 1, 199), (3, 1, 217), (4, 1, 5), (5, 1, 5), (6, 1, 218), (7, 1, 219), (8, 1, 220), (9, 1, 221), (10, 1, 222)] := by kernel_rfl
@[simp] theorem bt223 : Tryz.prog.bytesOf 223 = 48 := by kernel_rfl
@[simp] theorem td224 : tdOf Tryz.prog 224 = .agg [.int .u64 0, .int .u64 0, .int .u32 0, .int .u8 0, .int .u8 0, .int .u8 0, .int .u8 0, .nilFunc, .pointer none, .int .i32 0, .int .i32 0] [(0, 1, 12), (1, 1, 12), (2, 1, 199), (3, 1, 217), (4, 1, 5), (5, 1, 5), (6, 1, 218), (7, 1, 219), (8, 1, 220), (9, 1, 221), (10, 1, 222)] := by kernel_rfl
@[simp] theorem bt224 : Tryz.prog.bytesOf 224 = 48 := by kernel_rfl
@[simp] theorem td225 : tdOf Tryz.prog 225 = .cell (.nilFunc) := by kernel_rfl
@[simp] theorem bt225 : Tryz.prog.bytesOf 225 = 8 := by kernel_rfl
@[simp] theorem td226 : tdOf Tryz.prog 226 = .cell (.nilFunc) := by kernel_rfl
@[simp] theorem bt226 : Tryz.prog.bytesOf 226 = 8 := by kernel_rfl
@[simp] theorem td227 : tdOf Tryz.prog 227 = .cell (.nilFunc) := by kernel_rfl
@[simp] theorem bt227 : Tryz.prog.bytesOf 227 = 8 := by kernel_rfl
@[simp] theorem td228 : tdOf Tryz.prog 228 = .cell (.nilFunc) := by kernel_rfl
@[simp] theorem bt228 : Tryz.prog.bytesOf 228 = 8 := by kernel_rfl
@[simp] theorem td229 : tdOf Tryz.prog 229 = .cell (.pointer none) := by kernel_rfl
@[simp] theorem bt229 : Tryz.prog.bytesOf 229 = 8 := by kernel_rfl
@[simp] theorem cb1 : concB Tryz.prog 1 = true := by kernel_rfl
@[simp] theorem cb2 : concB Tryz.prog 2 = true := by kernel_rfl
@[simp] theorem cb3 : concB Tryz.prog 3 = true := by kernel_rfl
@[simp] theorem cb4 : concB Tryz.prog 4 = true := by kernel_rfl
@[simp] theorem cb5 : concB Tryz.prog 5 = true := by kernel_rfl
@[simp] theorem cb6 : concB Tryz.prog 6 = true := by kernel_rfl
@[simp] theorem cb7 : concB Tryz.prog 7 = true := by kernel_rfl
@[simp] theorem cb8 : concB Tryz.prog 8 = true := by kernel_rfl
@[simp] theorem cb9 : concB Tryz.prog 9 = true := by kernel_rfl
@[simp] theorem cb10 : concB Tryz.prog 10 = true := by kernel_rfl
@[simp] theorem cb11 : concB Tryz.prog 11 = true := by kernel_rfl
@[simp] theorem cb12 : concB Tryz.prog 12 = true := by kernel_rfl
@[simp] theorem cb13 : concB Tryz.prog 13 = true := by kernel_rfl
@[simp] theorem cb14 : concB Tryz.prog 14 = true := by kernel_rfl
@[simp] theorem cb15 : concB Tryz.prog 15 = true := by kernel_rfl
@[simp] theorem cb16 : concB Tryz.prog 16 = true := by kernel_rfl
@[simp] theorem cb17 : concB Tryz.prog 17 = true := by kernel_rfl
@[simp] theorem cb18 : concB Tryz.prog 18 = true := by kernel_rfl
@[simp] theorem cb19 : concB Tryz.prog 19 = true := by kernel_rfl
@[simp] theorem cb20 : concB Tryz.prog 20 = false := by kernel_rfl
@[simp] theorem cb21 : concB Tryz.prog 21 = true := by kernel_rfl
@[simp] theorem nm22 : namedB Tryz.prog 22 = false := by kernel_rfl
@[simp] theorem cb22 : concB Tryz.prog 22 = true := by kernel_rfl
@[simp] theorem nm23 : namedB Tryz.prog 23 = false := by kernel_rfl
@[simp] theorem cb23 : concB Tryz.prog 23 = true := by kernel_rfl
@[simp] theorem cb24 : concB Tryz.prog 24 = true := by kernel_rfl
@[simp] theorem cb25 : concB Tryz.prog 25 = true := by kernel_rfl
@[simp] theorem cb26 : concB Tryz.prog 26 = true := by kernel_rfl
@[simp] theorem cb27 : concB Tryz.prog 27 = true := by kernel_rfl
@[simp] theorem cb28 : concB Tryz.prog 28 = true := by kernel_rfl
@[simp] theorem cb29 : concB Tryz.prog 29 = true := by kernel_rfl
@[simp] theorem nm30 : namedB Tryz.prog 30 = false := by kernel_rfl
@[simp] theorem cb30 : concB Tryz.prog 30 = true := by kernel_rfl
@[simp] theorem cb31 : concB Tryz.prog 31 = true := by kernel_rfl
@[simp] theorem cb33 : concB Tryz.prog 33 = true := by kernel_rfl
@[simp] theorem cb35 : concB Tryz.prog 35 = true := by kernel_rfl
@[simp] theorem cb36 : concB Tryz.prog 36 = true := by kernel_rfl
@[simp] theorem cb37 : concB Tryz.prog 37 = true := by kernel_rfl
@[simp] theorem cb39 : concB Tryz.prog 39 = true := by kernel_rfl
@[simp] theorem cb40 : concB Tryz.prog 40 = true := by kernel_rfl
@[simp] theorem cb41 : concB Tryz.prog 41 = true := by kernel_rfl
@[simp] theorem cb43 : concB Tryz.prog 43 = true := by kernel_rfl
@[simp] theorem cb44 : concB Tryz.prog 44 = true := by kernel_rfl
@[simp] theorem nm45 : namedB Tryz.prog 45 = false := by kernel_rfl
@[simp] theorem cb45 : concB Tryz.prog 45 = true := by kernel_rfl
@[simp] theorem cb46 : concB Tryz.prog 46 = true := by kernel_rfl
@[simp] theorem cb47 : concB Tryz.prog 47 = true := by kernel_rfl
@[simp] theorem cb48 : concB Tryz.prog 48 = true := by kernel_rfl
@[simp] theorem cb49 : concB Tryz.prog 49 = true := by kernel_rfl
@[simp] theorem cb50 : concB Tryz.prog 50 = true := by kernel_rfl
@[simp] theorem nm51 : namedB Tryz.prog 51 = false := by kernel_rfl
@[simp] theorem cb51 : concB Tryz.prog 51 = true := by kernel_rfl
@[simp] theorem cb52 : concB Tryz.prog 52 = true := by kernel_rfl
@[simp] theorem cb53 : concB Tryz.prog 53 = true := by kernel_rfl
@[simp] theorem cb54 : concB Tryz.prog 54 = true := by kernel_rfl
@[simp] theorem cb55 : concB Tryz.prog 55 = true := by kernel_rfl
@[simp] theorem nm56 : namedB Tryz.prog 56 = false := by kernel_rfl
@[simp] theorem cb56 : concB Tryz.prog 56 = true := by kernel_rfl
@[simp] theorem cb58 : concB Tryz.prog 58 = true := by kernel_rfl
@[simp] theorem cb60 : concB Tryz.prog 60 = true := by kernel_rfl
@[simp] theorem cb61 : concB Tryz.prog 61 = true := by kernel_rfl
@[simp] theorem cb62 : concB Tryz.prog 62 = true := by kernel_rfl
@[simp] theorem nm63 : namedB Tryz.prog 63 = false := by kernel_rfl
@[simp] theorem cb63 : concB Tryz.prog 63 = true := by kernel_rfl
@[simp] theorem cb65 : concB Tryz.prog 65 = true := by kernel_rfl
@[simp] theorem nm66 : namedB Tryz.prog 66 = false := by kernel_rfl
@[simp] theorem cb66 : concB Tryz.prog 66 = true := by kernel_rfl
@[simp] theorem cb68 : concB Tryz.prog 68 = true := by kernel_rfl
@[simp] theorem cb69 : concB Tryz.prog 69 = true := by kernel_rfl
@[simp] theorem cb70 : concB Tryz.prog 70 = true := by kernel_rfl
@[simp] theorem cb71 : concB Tryz.prog 71 = true := by kernel_rfl
@[simp] theorem cb72 : concB Tryz.prog 72 = true := by kernel_rfl
@[simp] theorem cb73 : concB Tryz.prog 73 = true := by kernel_rfl
@[simp] theorem cb74 : concB Tryz.prog 74 = true := by kernel_rfl
@[simp] theorem cb75 : concB Tryz.prog 75 = true := by kernel_rfl
@[simp] theorem cb76 : concB Tryz.prog 76 = true := by kernel_rfl
@[simp] theorem cb77 : concB Tryz.prog 77 = true := by kernel_rfl
@[simp] theorem cb78 : concB Tryz.prog 78 = true := by kernel_rfl
@[simp] theorem cb79 : concB Tryz.prog 79 = true := by kernel_rfl
@[simp] theorem cb80 : concB Tryz.prog 80 = true := by kernel_rfl
@[simp] theorem nm81 : namedB Tryz.prog 81 = false := by kernel_rfl
@[simp] theorem cb81 : concB Tryz.prog 81 = true := by kernel_rfl
@[simp] theorem cb83 : concB Tryz.prog 83 = true := by kernel_rfl
@[simp] theorem cb84 : concB Tryz.prog 84 = true := by kernel_rfl
@[simp] theorem cb85 : concB Tryz.prog 85 = true := by kernel_rfl
@[simp] theorem cb86 : concB Tryz.prog 86 = true := by kernel_rfl
@[simp] theorem cb87 : concB Tryz.prog 87 = true := by kernel_rfl
@[simp] theorem cb88 : concB Tryz.prog 88 = true := by kernel_rfl
@[simp] theorem cb89 : concB Tryz.prog 89 = true := by kernel_rfl
@[simp] theorem cb90 : concB Tryz.prog 90 = true := by kernel_rfl
@[simp] theorem cb91 : concB Tryz.prog 91 = true := by kernel_rfl
@[simp] theorem nm92 : namedB Tryz.prog 92 = false := by kernel_rfl
@[simp] theorem cb92 : concB Tryz.prog 92 = true := by kernel_rfl
@[simp] theorem cb94 : concB Tryz.prog 94 = true := by kernel_rfl
@[simp] theorem cb95 : concB Tryz.prog 95 = true := by kernel_rfl
@[simp] theorem cb96 : concB Tryz.prog 96 = true := by kernel_rfl
@[simp] theorem cb97 : concB Tryz.prog 97 = true := by kernel_rfl
@[simp] theorem cb98 : concB Tryz.prog 98 = true := by kernel_rfl
@[simp] theorem cb99 : concB Tryz.prog 99 = true := by kernel_rfl
@[simp] theorem cb101 : concB Tryz.prog 101 = true := by kernel_rfl
@[simp] theorem cb102 : concB Tryz.prog 102 = true := by kernel_rfl
@[simp] theorem cb103 : concB Tryz.prog 103 = true := by kernel_rfl
@[simp] theorem cb104 : concB Tryz.prog 104 = true := by kernel_rfl
@[simp] theorem cb105 : concB Tryz.prog 105 = true := by kernel_rfl
@[simp] theorem cb106 : concB Tryz.prog 106 = true := by kernel_rfl
@[simp] theorem cb107 : concB Tryz.prog 107 = true := by kernel_rfl
@[simp] theorem cb108 : concB Tryz.prog 108 = true := by kernel_rfl
@[simp] theorem cb109 : concB Tryz.prog 109 = true := by kernel_rfl
@[simp] theorem cb110 : concB Tryz.prog 110 = true := by kernel_rfl
@[simp] theorem cb111 : concB Tryz.prog 111 = true := by kernel_rfl
@[simp] theorem cb112 : concB Tryz.prog 112 = true := by kernel_rfl
@[simp] theorem cb113 : concB Tryz.prog 113 = true := by kernel_rfl
@[simp] theorem cb114 : concB Tryz.prog 114 = true := by kernel_rfl
@[simp] theorem cb115 : concB Tryz.prog 115 = true := by kernel_rfl
@[simp] theorem cb116 : concB Tryz.prog 116 = true := by kernel_rfl
@[simp] theorem cb117 : concB Tryz.prog 117 = true := by kernel_rfl
@[simp] theorem cb118 : concB Tryz.prog 118 = true := by kernel_rfl
@[simp] theorem cb119 : concB Tryz.prog 119 = true := by kernel_rfl
@[simp] theorem cb121 : concB Tryz.prog 121 = true := by kernel_rfl
@[simp] theorem cb122 : concB Tryz.prog 122 = true := by kernel_rfl
@[simp] theorem cb123 : concB Tryz.prog 123 = true := by kernel_rfl
@[simp] theorem cb124 : concB Tryz.prog 124 = true := by kernel_rfl
@[simp] theorem cb125 : concB Tryz.prog 125 = true := by kernel_rfl
@[simp] theorem cb126 : concB Tryz.prog 126 = true := by kernel_rfl
@[simp] theorem cb127 : concB Tryz.prog 127 = true := by kernel_rfl
@[simp] theorem cb128 : concB Tryz.prog 128 = true := by kernel_rfl
@[simp] theorem cb129 : concB Tryz.prog 129 = true := by kernel_rfl
@[simp] theorem cb130 : concB Tryz.prog 130 = true := by kernel_rfl
@[simp] theorem cb131 : concB Tryz.prog 131 = true := by kernel_rfl
@[simp] theorem cb132 : concB Tryz.prog 132 = true := by kernel_rfl
@[simp] theorem cb133 : concB Tryz.prog 133 = true := by kernel_rfl
@[simp] theorem nm134 : namedB Tryz.prog 134 = false := by kernel_rfl
@[simp] theorem cb134 : concB Tryz.prog 134 = true := by kernel_rfl
@[simp] theorem cb135 : concB Tryz.prog 135 = true := by kernel_rfl
@[simp] theorem cb136 : concB Tryz.prog 136 = true := by kernel_rfl
@[simp] theorem nm137 : namedB Tryz.prog 137 = false := by kernel_rfl
@[simp] theorem cb137 : concB Tryz.prog 137 = true := by kernel_rfl
@[simp] theorem nm138 : namedB Tryz.prog 138 = true := by kernel_rfl
@[simp] theorem cb138 : concB Tryz.prog 138 = true := by kernel_rfl
@[simp] theorem cb139 : concB Tryz.prog 139 = true := by kernel_rfl
@[simp] theorem cb140 : concB Tryz.prog 140 = true := by kernel_rfl
@[simp] theorem cb141 : concB Tryz.prog 141 = true := by kernel_rfl
@[simp] theorem cb142 : concB Tryz.prog 142 = true := by kernel_rfl
@[simp] theorem cb143 : concB Tryz.prog 143 = true := by kernel_rfl
@[simp] theorem cb144 : concB Tryz.prog 144 = true := by kernel_rfl
@[simp] theorem cb145 : concB Tryz.prog 145 = true := by kernel_rfl
@[simp] theorem cb146 : concB Tryz.prog 146 = true := by kernel_rfl
@[simp] theorem cb147 : concB Tryz.prog 147 = true := by kernel_rfl
@[simp] theorem cb148 : concB Tryz.prog 148 = true := by kernel_rfl
@[simp] theorem cb149 : concB Tryz.prog 149 = true := by kernel_rfl
@[simp] theorem cb150 : concB Tryz.prog 150 = true := by kernel_rfl
@[simp] theorem cb151 : concB Tryz.prog 151 = true := by kernel_rfl
@[simp] theorem cb152 : concB Tryz.prog 152 = true := by kernel_rfl
@[simp] theorem cb153 : concB Tryz.prog 153 = true := by kernel_rfl
@[simp] theorem cb154 : concB Tryz.prog 154 = true := by kernel_rfl
@[simp] theorem cb155 : concB Tryz.prog 155 = true := by kernel_rfl
@[simp] theorem cb156 : concB Tryz.prog 156 = true := by kernel_rfl
@[simp] theorem cb157 : concB Tryz.prog 157 = true := by kernel_rfl
@[simp] theorem cb158 : concB Tryz.prog 158 = true := by kernel_rfl
@[simp] theorem nm159 : namedB Tryz.prog 159 = false := by kernel_rfl
@[simp] theorem cb159 : concB Tryz.prog 159 = true := by kernel_rfl
@[simp] theorem nm160 : namedB Tryz.prog 160 = true := by kernel_rfl
@[simp] theorem cb160 : concB Tryz.prog 160 = true := by kernel_rfl
@[simp] theorem cb161 : concB Tryz.prog 161 = false := by kernel_rfl
@[simp] theorem cb162 : concB Tryz.prog 162 = false := by kernel_rfl
@[simp] theorem cb163 : concB Tryz.prog 163 = true := by kernel_rfl
@[simp] theorem cb164 : concB Tryz.prog 164 = true := by kernel_rfl
@[simp] theorem cb165 : concB Tryz.prog 165 = true := by kernel_rfl
@[simp] theorem cb166 : concB Tryz.prog 166 = true := by kernel_rfl
@[simp] theorem cb167 : concB Tryz.prog 167 = true := by kernel_rfl
@[simp] theorem cb168 : concB Tryz.prog 168 = true := by kernel_rfl
@[simp] theorem cb169 : concB Tryz.prog 169 = true := by kernel_rfl
@[simp] theorem cb170 : concB Tryz.prog 170 = true := by kernel_rfl
@[simp] theorem cb171 : concB Tryz.prog 171 = false := by kernel_rfl
@[simp] theorem cb172 : concB Tryz.prog 172 = false := by kernel_rfl
@[simp] theorem cb173 : concB Tryz.prog 173 = true := by kernel_rfl
@[simp] theorem cb174 : concB Tryz.prog 174 = true := by kernel_rfl
@[simp] theorem cb175 : concB Tryz.prog 175 = true := by kernel_rfl
@[simp] theorem cb176 : concB Tryz.prog 176 = true := by kernel_rfl
@[simp] theorem cb177 : concB Tryz.prog 177 = true := by kernel_rfl
@[simp] theorem cb178 : concB Tryz.prog 178 = true := by kernel_rfl
@[simp] theorem cb179 : concB Tryz.prog 179 = true := by kernel_rfl
@[simp] theorem cb180 : concB Tryz.prog 180 = true := by kernel_rfl
@[simp] theorem cb181 : concB Tryz.prog 181 = true := by kernel_rfl
@[simp] theorem cb182 : concB Tryz.prog 182 = true := by kernel_rfl
@[simp] theorem cb183 : concB Tryz.prog 183 = true := by kernel_rfl
@[simp] theorem cb184 : concB Tryz.prog 184 = true := by kernel_rfl
@[simp] theorem cb185 : concB Tryz.prog 185 = true := by kernel_rfl
@[simp] theorem nm186 : namedB Tryz.prog 186 = false := by kernel_rfl
@[simp] theorem cb186 : concB Tryz.prog 186 = true := by kernel_rfl
@[simp] theorem cb187 : concB Tryz.prog 187 = true := by kernel_rfl
@[simp] theorem cb188 : concB Tryz.prog 188 = true := by kernel_rfl
@[simp] theorem cb189 : concB Tryz.prog 189 = true := by kernel_rfl
@[simp] theorem cb190 : concB Tryz.prog 190 = true := by kernel_rfl
@[simp] theorem cb191 : concB Tryz.prog 191 = true := by kernel_rfl
@[simp] theorem cb193 : concB Tryz.prog 193 = true := by kernel_rfl
@[simp] theorem cb194 : concB Tryz.prog 194 = true := by kernel_rfl
@[simp] theorem cb195 : concB Tryz.prog 195 = true := by kernel_rfl
@[simp] theorem cb197 : concB Tryz.prog 197 = true := by kernel_rfl
@[simp] theorem cb198 : concB Tryz.prog 198 = true := by kernel_rfl
@[simp] theorem cb199 : concB Tryz.prog 199 = true := by kernel_rfl
@[simp] theorem cb200 : concB Tryz.prog 200 = true := by kernel_rfl
@[simp] theorem cb201 : concB Tryz.prog 201 = true := by kernel_rfl
@[simp] theorem cb202 : concB Tryz.prog 202 = true := by kernel_rfl
@[simp] theorem cb203 : concB Tryz.prog 203 = true := by kernel_rfl
@[simp] theorem cb204 : concB Tryz.prog 204 = true := by kernel_rfl
@[simp] theorem cb205 : concB Tryz.prog 205 = true := by kernel_rfl
@[simp] theorem cb206 : concB Tryz.prog 206 = true := by kernel_rfl
@[simp] theorem cb207 : concB Tryz.prog 207 = true := by kernel_rfl
@[simp] theorem cb208 : concB Tryz.prog 208 = true := by kernel_rfl
@[simp] theorem cb210 : concB Tryz.prog 210 = true := by kernel_rfl
@[simp] theorem cb211 : concB Tryz.prog 211 = true := by kernel_rfl
@[simp] theorem cb212 : concB Tryz.prog 212 = true := by kernel_rfl
@[simp] theorem cb213 : concB Tryz.prog 213 = true := by kernel_rfl
@[simp] theorem cb214 : concB Tryz.prog 214 = true := by kernel_rfl
@[simp] theorem cb215 : concB Tryz.prog 215 = true := by kernel_rfl
@[simp] theorem cb216 : concB Tryz.prog 216 = true := by kernel_rfl
@[simp] theorem cb217 : concB Tryz.prog 217 = true := by kernel_rfl
@[simp] theorem cb218 : concB Tryz.prog 218 = true := by kernel_rfl
@[simp] theorem cb219 : concB Tryz.prog 219 = true := by kernel_rfl
@[simp] theorem cb220 : concB Tryz.prog 220 = true := by kernel_rfl
@[simp] theorem cb221 : concB Tryz.prog 221 = true := by kernel_rfl
@[simp] theorem cb222 : concB Tryz.prog 222 = true := by kernel_rfl
@[simp] theorem cb223 : concB Tryz.prog 223 = true := by kernel_rfl
@[simp] theorem cb224 : concB Tryz.prog 224 = true := by kernel_rfl
@[simp] theorem cb225 : concB Tryz.prog 225 = true := by kernel_rfl
@[simp] theorem cb226 : concB Tryz.prog 226 = true := by kernel_rfl
@[simp] theorem cb227 : concB Tryz.prog 227 = true := by kernel_rfl
@[simp] theorem cb228 : concB Tryz.prog 228 = true := by kernel_rfl
@[simp] theorem cb229 : concB Tryz.prog 229 = true := by kernel_rfl
@[simp] theorem kt2 : ktOf Tryz.prog 2 = some (.i .i64) := by kernel_rfl
@[simp] theorem kt3 : ktOf Tryz.prog 3 = some (.i .i64) := by kernel_rfl
@[simp] theorem kt4 : ktOf Tryz.prog 4 = some (.b) := by kernel_rfl
@[simp] theorem kt5 : ktOf Tryz.prog 5 = some (.i .u8) := by kernel_rfl
@[simp] theorem kt6 : ktOf Tryz.prog 6 = some (.i .u8) := by kernel_rfl
@[simp] theorem sk7 : skOf Tryz.prog 7 = some [.i .i64, .i .i64, .b, .i .u8] := by kernel_rfl
@[simp] theorem sk8 : skOf Tryz.prog 8 = some [.i .i64, .i .i64, .b, .i .u8] := by kernel_rfl
@[simp] theorem kt12 : ktOf Tryz.prog 12 = some (.i .u64) := by kernel_rfl
@[simp] theorem kt21 : ktOf Tryz.prog 21 = some (.i .i32) := by kernel_rfl
@[simp] theorem sk26 : skOf Tryz.prog 26 = some [.i .i64, .b] := by kernel_rfl
@[simp] theorem sk27 : skOf Tryz.prog 27 = some [.i .i64, .b] := by kernel_rfl
@[simp] theorem kt31 : ktOf Tryz.prog 31 = some (.i .i64) := by kernel_rfl
@[simp] theorem sk36 : skOf Tryz.prog 36 = some [.i .i64, .i .i64] := by kernel_rfl
@[simp] theorem sk37 : skOf Tryz.prog 37 = some [.i .i64, .i .i64] := by kernel_rfl
@[simp] theorem sk48 : skOf Tryz.prog 48 = some [.i .i64, .i .i64] := by kernel_rfl
@[simp] theorem sk49 : skOf Tryz.prog 49 = some [.i .i64, .i .i64] := by kernel_rfl
@[simp] theorem kt50 : ktOf Tryz.prog 50 = some (.i .i64) := by kernel_rfl
@[simp] theorem sk72 : skOf Tryz.prog 72 = some [.i .i64, .i .i64, .i .i64] := by kernel_rfl
@[simp] theorem sk73 : skOf Tryz.prog 73 = some [.i .i64, .i .i64, .i .i64] := by kernel_rfl
@[simp] theorem sk110 : skOf Tryz.prog 110 = some [.i .i64, .b] := by kernel_rfl
@[simp] theorem sk111 : skOf Tryz.prog 111 = some [.i .i64, .b] := by kernel_rfl
@[simp] theorem mk124 : mkOf Tryz.prog 124 = some (true, [.i .i64, .b], .int .i64 0) := by kernel_rfl
@[simp] theorem mk133 : mkOf Tryz.prog 133 = some (true, [.i .i64, .b], .bool false) := by kernel_rfl
@[simp] theorem sk157 : skOf Tryz.prog 157 = some [.i .i64, .i .i64, .i .i64] := by kernel_rfl
@[simp] theorem sk158 : skOf Tryz.prog 158 = some [.i .i64, .i .i64, .i .i64] := by kernel_rfl
@[simp] theorem kt184 : ktOf Tryz.prog 184 = some (.i .u64) := by kernel_rfl
@[simp] theorem kt191 : ktOf Tryz.prog 191 = some (.i .i64) := by kernel_rfl
@[simp] theorem kt199 : ktOf Tryz.prog 199 = some (.i .u32) := by kernel_rfl
@[simp] theorem kt201 : ktOf Tryz.prog 201 = some (.i .u64) := by kernel_rfl
@[simp] theorem kt202 : ktOf Tryz.prog 202 = some (.i .u64) := by kernel_rfl
@[simp] theorem kt217 : ktOf Tryz.prog 217 = some (.i .u8) := by kernel_rfl
@[simp] theorem kt218 : ktOf Tryz.prog 218 = some (.i .u8) := by kernel_rfl
@[simp] theorem kt221 : ktOf Tryz.prog 221 = some (.i .i32) := by kernel_rfl
@[simp] theorem kt222 : ktOf Tryz.prog 222 = some (.i .i32) := by kernel_rfl
theorem mixed : Tryz.prog.follows .mixedOrders = true := by kernel_rfl
end Go.AM
