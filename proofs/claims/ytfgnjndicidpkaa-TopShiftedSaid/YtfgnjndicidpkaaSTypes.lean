/- Facts on the seat's types. -/
import Derived.Test.YtfgnjndicidpkaaAbsFit
namespace Go.Proofs.Ytfgnjndicidpkaa
open Go.Abs
theorem sh0 : shapeOf Try.prog 0 = some (false, 1) := by kernel_rfl
theorem sh1 : shapeOf Try.prog 1 = some (false, 1) := by kernel_rfl
theorem ze1 : zeroOf Try.prog 1 = some (.nilFunc) := by kernel_rfl
theorem sh2 : shapeOf Try.prog 2 = some (false, 1) := by kernel_rfl
theorem ze2 : zeroOf Try.prog 2 = some (.int .i64 0) := by kernel_rfl
theorem sh3 : shapeOf Try.prog 3 = some (false, 1) := by kernel_rfl
theorem ze3 : zeroOf Try.prog 3 = some (.int .i64 0) := by kernel_rfl
theorem sh4 : shapeOf Try.prog 4 = some (false, 1) := by kernel_rfl
theorem ze4 : zeroOf Try.prog 4 = some (.bool false) := by kernel_rfl
theorem sh5 : shapeOf Try.prog 5 = some (false, 1) := by kernel_rfl
theorem ze5 : zeroOf Try.prog 5 = some (.int .u8 0) := by kernel_rfl
theorem sh6 : shapeOf Try.prog 6 = some (false, 1) := by kernel_rfl
theorem ze6 : zeroOf Try.prog 6 = some (.int .u8 0) := by kernel_rfl
theorem fd7_0 : fieldOf Try.prog 7 0 = some (0, 2, 1) := by kernel_rfl
theorem fd7_1 : fieldOf Try.prog 7 1 = some (1, 3, 1) := by kernel_rfl
theorem fd7_2 : fieldOf Try.prog 7 2 = some (2, 4, 1) := by kernel_rfl
theorem fd7_3 : fieldOf Try.prog 7 3 = some (3, 6, 1) := by kernel_rfl
theorem fo7 : fieldsOk Try.prog 7 = true := by kernel_rfl
theorem sh7 : shapeOf Try.prog 7 = some (true, 4) := by kernel_rfl
theorem ze7 : zeroOf Try.prog 7 = some (.agg #[.int .i64 0, .int .i64 0, .bool false, .int .u8 0]) := by kernel_rfl
theorem fd8_0 : fieldOf Try.prog 8 0 = some (0, 2, 1) := by kernel_rfl
theorem fd8_1 : fieldOf Try.prog 8 1 = some (1, 3, 1) := by kernel_rfl
theorem fd8_2 : fieldOf Try.prog 8 2 = some (2, 4, 1) := by kernel_rfl
theorem fd8_3 : fieldOf Try.prog 8 3 = some (3, 6, 1) := by kernel_rfl
theorem fo8 : fieldsOk Try.prog 8 = true := by kernel_rfl
theorem sh8 : shapeOf Try.prog 8 = some (true, 4) := by kernel_rfl
theorem ze8 : zeroOf Try.prog 8 = some (.agg #[.int .i64 0, .int .i64 0, .bool false, .int .u8 0]) := by kernel_rfl
theorem sh9 : shapeOf Try.prog 9 = some (false, 1) := by kernel_rfl
theorem sh10 : shapeOf Try.prog 10 = some (false, 1) := by kernel_rfl
theorem sh11 : shapeOf Try.prog 11 = some (false, 1) := by kernel_rfl
theorem sh12 : shapeOf Try.prog 12 = some (false, 1) := by kernel_rfl
theorem ze12 : zeroOf Try.prog 12 = some (.int .u64 0) := by kernel_rfl
theorem fd13_0 : fieldOf Try.prog 13 0 = some (0, 9, 1) := by kernel_rfl
theorem fd13_1 : fieldOf Try.prog 13 1 = some (1, 12, 1) := by kernel_rfl
theorem fo13 : fieldsOk Try.prog 13 = true := by kernel_rfl
theorem sh13 : shapeOf Try.prog 13 = some (true, 2) := by kernel_rfl
theorem fd14_0 : fieldOf Try.prog 14 0 = some (0, 9, 1) := by kernel_rfl
theorem fd14_1 : fieldOf Try.prog 14 1 = some (1, 12, 1) := by kernel_rfl
theorem fo14 : fieldsOk Try.prog 14 = true := by kernel_rfl
theorem sh14 : shapeOf Try.prog 14 = some (true, 2) := by kernel_rfl
theorem sh15 : shapeOf Try.prog 15 = some (false, 1) := by kernel_rfl
theorem ze15 : zeroOf Try.prog 15 = some (.pointer none) := by kernel_rfl
theorem sh16 : shapeOf Try.prog 16 = some (false, 1) := by kernel_rfl
theorem ze16 : zeroOf Try.prog 16 = some (.pointer none) := by kernel_rfl
theorem sh17 : shapeOf Try.prog 17 = some (false, 1) := by kernel_rfl
theorem ze17 : zeroOf Try.prog 17 = some (.pointer none) := by kernel_rfl
theorem fd18_0 : fieldOf Try.prog 18 0 = some (0, 17, 1) := by kernel_rfl
theorem fo18 : fieldsOk Try.prog 18 = true := by kernel_rfl
theorem sh18 : shapeOf Try.prog 18 = some (true, 1) := by kernel_rfl
theorem ze18 : zeroOf Try.prog 18 = some (.agg #[.pointer none]) := by kernel_rfl
theorem fd19_0 : fieldOf Try.prog 19 0 = some (0, 17, 1) := by kernel_rfl
theorem fo19 : fieldsOk Try.prog 19 = true := by kernel_rfl
theorem sh19 : shapeOf Try.prog 19 = some (true, 1) := by kernel_rfl
theorem ze19 : zeroOf Try.prog 19 = some (.agg #[.pointer none]) := by kernel_rfl
theorem sh20 : shapeOf Try.prog 20 = some (false, 1) := by kernel_rfl
theorem ze20 : zeroOf Try.prog 20 = some (.nilIface) := by kernel_rfl
theorem sh21 : shapeOf Try.prog 21 = some (false, 1) := by kernel_rfl
theorem ze21 : zeroOf Try.prog 21 = some (.int .i32 0) := by kernel_rfl
theorem sl22 : sliceElem Try.prog 22 = some (29, 1, 24) := by kernel_rfl
theorem ar22 : arrElem Try.prog 22 = none := by kernel_rfl
theorem sh22 : shapeOf Try.prog 22 = some (false, 1) := by kernel_rfl
theorem ze22 : zeroOf Try.prog 22 = some (.slice none 0 0) := by kernel_rfl
theorem fd23_0 : fieldOf Try.prog 23 0 = some (0, 22, 1) := by kernel_rfl
theorem fd23_1 : fieldOf Try.prog 23 1 = some (1, 3, 1) := by kernel_rfl
theorem fo23 : fieldsOk Try.prog 23 = true := by kernel_rfl
theorem sh23 : shapeOf Try.prog 23 = some (true, 2) := by kernel_rfl
theorem ze23 : zeroOf Try.prog 23 = some (.agg #[.slice none 0 0, .int .i64 0]) := by kernel_rfl
theorem fd24_0 : fieldOf Try.prog 24 0 = some (0, 22, 1) := by kernel_rfl
theorem fd24_1 : fieldOf Try.prog 24 1 = some (1, 3, 1) := by kernel_rfl
theorem fo24 : fieldsOk Try.prog 24 = true := by kernel_rfl
theorem sh24 : shapeOf Try.prog 24 = some (true, 2) := by kernel_rfl
theorem ze24 : zeroOf Try.prog 24 = some (.agg #[.slice none 0 0, .int .i64 0]) := by kernel_rfl
theorem ar25 : arrElem Try.prog 25 = some (6, 5, 1) := by kernel_rfl
theorem sl25 : sliceElem Try.prog 25 = none := by kernel_rfl
theorem sh25 : shapeOf Try.prog 25 = some (true, 6) := by kernel_rfl
theorem ze25 : zeroOf Try.prog 25 = some (.agg #[.int .u8 0, .int .u8 0, .int .u8 0, .int .u8 0, .int .u8 0, .int .u8 0]) := by kernel_rfl
theorem ar26 : arrElem Try.prog 26 = some (8, 5, 1) := by kernel_rfl
theorem sl26 : sliceElem Try.prog 26 = none := by kernel_rfl
theorem sh26 : shapeOf Try.prog 26 = some (true, 8) := by kernel_rfl
theorem ze26 : zeroOf Try.prog 26 = some (.agg #[.int .u8 0, .int .u8 0, .int .u8 0, .int .u8 0, .int .u8 0, .int .u8 0, .int .u8 0, .int .u8 0]) := by kernel_rfl
theorem sh27 : shapeOf Try.prog 27 = some (false, 1) := by kernel_rfl
theorem ze27 : zeroOf Try.prog 27 = some (.nilFunc) := by kernel_rfl
theorem sh28 : shapeOf Try.prog 28 = some (false, 1) := by kernel_rfl
theorem ze28 : zeroOf Try.prog 28 = some (.nilFunc) := by kernel_rfl
theorem sl29 : sliceElem Try.prog 29 = some (3, 1, 8) := by kernel_rfl
theorem ar29 : arrElem Try.prog 29 = none := by kernel_rfl
theorem sh29 : shapeOf Try.prog 29 = some (false, 1) := by kernel_rfl
theorem ze29 : zeroOf Try.prog 29 = some (.slice none 0 0) := by kernel_rfl
theorem sh30 : shapeOf Try.prog 30 = some (false, 1) := by kernel_rfl
theorem ze30 : zeroOf Try.prog 30 = some (.nilFunc) := by kernel_rfl
theorem sh31 : shapeOf Try.prog 31 = some (false, 1) := by kernel_rfl
theorem sh32 : shapeOf Try.prog 32 = some (false, 1) := by kernel_rfl
theorem ze32 : zeroOf Try.prog 32 = some (.nilFunc) := by kernel_rfl
theorem sh33 : shapeOf Try.prog 33 = some (false, 1) := by kernel_rfl
theorem ze33 : zeroOf Try.prog 33 = some (.int .i64 0) := by kernel_rfl
theorem sh34 : shapeOf Try.prog 34 = some (false, 1) := by kernel_rfl
theorem sh35 : shapeOf Try.prog 35 = some (false, 1) := by kernel_rfl
theorem ze35 : zeroOf Try.prog 35 = some (.nilFunc) := by kernel_rfl
theorem sh36 : shapeOf Try.prog 36 = some (false, 1) := by kernel_rfl
theorem sh37 : shapeOf Try.prog 37 = some (false, 1) := by kernel_rfl
theorem ze37 : zeroOf Try.prog 37 = some (.nilFunc) := by kernel_rfl
theorem sh38 : shapeOf Try.prog 38 = some (false, 1) := by kernel_rfl
theorem sh39 : shapeOf Try.prog 39 = some (false, 1) := by kernel_rfl
theorem ze39 : zeroOf Try.prog 39 = some (.nilFunc) := by kernel_rfl
theorem fd40_0 : fieldOf Try.prog 40 0 = some (0, 2, 1) := by kernel_rfl
theorem fd40_1 : fieldOf Try.prog 40 1 = some (1, 2, 1) := by kernel_rfl
theorem fo40 : fieldsOk Try.prog 40 = true := by kernel_rfl
theorem sh40 : shapeOf Try.prog 40 = some (true, 2) := by kernel_rfl
theorem ze40 : zeroOf Try.prog 40 = some (.agg #[.int .i64 0, .int .i64 0]) := by kernel_rfl
theorem fd41_0 : fieldOf Try.prog 41 0 = some (0, 2, 1) := by kernel_rfl
theorem fd41_1 : fieldOf Try.prog 41 1 = some (1, 2, 1) := by kernel_rfl
theorem fo41 : fieldsOk Try.prog 41 = true := by kernel_rfl
theorem sh41 : shapeOf Try.prog 41 = some (true, 2) := by kernel_rfl
theorem ze41 : zeroOf Try.prog 41 = some (.agg #[.int .i64 0, .int .i64 0]) := by kernel_rfl
theorem sh42 : shapeOf Try.prog 42 = some (false, 1) := by kernel_rfl
theorem sh43 : shapeOf Try.prog 43 = some (false, 1) := by kernel_rfl
theorem ze43 : zeroOf Try.prog 43 = some (.nilFunc) := by kernel_rfl
theorem sh44 : shapeOf Try.prog 44 = some (false, 1) := by kernel_rfl
theorem ze44 : zeroOf Try.prog 44 = some (.nilFunc) := by kernel_rfl
theorem fd45_0 : fieldOf Try.prog 45 0 = some (0, 29, 1) := by kernel_rfl
theorem fd45_1 : fieldOf Try.prog 45 1 = some (1, 29, 1) := by kernel_rfl
theorem fd45_2 : fieldOf Try.prog 45 2 = some (2, 3, 1) := by kernel_rfl
theorem fo45 : fieldsOk Try.prog 45 = true := by kernel_rfl
theorem sh45 : shapeOf Try.prog 45 = some (true, 3) := by kernel_rfl
theorem ze45 : zeroOf Try.prog 45 = some (.agg #[.slice none 0 0, .slice none 0 0, .int .i64 0]) := by kernel_rfl
theorem fd46_0 : fieldOf Try.prog 46 0 = some (0, 29, 1) := by kernel_rfl
theorem fd46_1 : fieldOf Try.prog 46 1 = some (1, 29, 1) := by kernel_rfl
theorem fd46_2 : fieldOf Try.prog 46 2 = some (2, 3, 1) := by kernel_rfl
theorem fo46 : fieldsOk Try.prog 46 = true := by kernel_rfl
theorem sh46 : shapeOf Try.prog 46 = some (true, 3) := by kernel_rfl
theorem ze46 : zeroOf Try.prog 46 = some (.agg #[.slice none 0 0, .slice none 0 0, .int .i64 0]) := by kernel_rfl
theorem sh47 : shapeOf Try.prog 47 = some (false, 1) := by kernel_rfl
theorem sh48 : shapeOf Try.prog 48 = some (false, 1) := by kernel_rfl
theorem ze48 : zeroOf Try.prog 48 = some (.nilFunc) := by kernel_rfl
theorem sh49 : shapeOf Try.prog 49 = some (false, 1) := by kernel_rfl
theorem ze49 : zeroOf Try.prog 49 = some (.nilFunc) := by kernel_rfl
theorem sh50 : shapeOf Try.prog 50 = some (false, 1) := by kernel_rfl
theorem ze50 : zeroOf Try.prog 50 = some (.nilFunc) := by kernel_rfl
theorem sh51 : shapeOf Try.prog 51 = some (false, 1) := by kernel_rfl
theorem ze51 : zeroOf Try.prog 51 = some (.nilFunc) := by kernel_rfl
theorem sh52 : shapeOf Try.prog 52 = some (false, 1) := by kernel_rfl
theorem ze52 : zeroOf Try.prog 52 = some (.nilFunc) := by kernel_rfl
theorem sh53 : shapeOf Try.prog 53 = some (false, 1) := by kernel_rfl
theorem sh54 : shapeOf Try.prog 54 = some (false, 1) := by kernel_rfl
theorem ze54 : zeroOf Try.prog 54 = some (.nilFunc) := by kernel_rfl
theorem sh55 : shapeOf Try.prog 55 = some (false, 1) := by kernel_rfl
theorem ze55 : zeroOf Try.prog 55 = some (.nilFunc) := by kernel_rfl
theorem sh56 : shapeOf Try.prog 56 = some (false, 1) := by kernel_rfl
theorem ze56 : zeroOf Try.prog 56 = some (.nilFunc) := by kernel_rfl
theorem sh57 : shapeOf Try.prog 57 = some (false, 1) := by kernel_rfl
theorem ze57 : zeroOf Try.prog 57 = some (.nilFunc) := by kernel_rfl
theorem sh58 : shapeOf Try.prog 58 = some (false, 1) := by kernel_rfl
theorem ze58 : zeroOf Try.prog 58 = some (.nilFunc) := by kernel_rfl
theorem sh59 : shapeOf Try.prog 59 = some (false, 1) := by kernel_rfl
theorem ze59 : zeroOf Try.prog 59 = some (.nilFunc) := by kernel_rfl
theorem sh60 : shapeOf Try.prog 60 = some (false, 1) := by kernel_rfl
theorem sh61 : shapeOf Try.prog 61 = some (false, 1) := by kernel_rfl
theorem ze61 : zeroOf Try.prog 61 = some (.nilFunc) := by kernel_rfl
theorem sh62 : shapeOf Try.prog 62 = some (false, 1) := by kernel_rfl
theorem ze62 : zeroOf Try.prog 62 = some (.nilFunc) := by kernel_rfl
theorem sh63 : shapeOf Try.prog 63 = some (false, 1) := by kernel_rfl
theorem ze63 : zeroOf Try.prog 63 = some (.nilFunc) := by kernel_rfl
theorem sh64 : shapeOf Try.prog 64 = some (false, 1) := by kernel_rfl
theorem ze64 : zeroOf Try.prog 64 = some (.nilFunc) := by kernel_rfl
theorem sh65 : shapeOf Try.prog 65 = some (false, 1) := by kernel_rfl
theorem ze65 : zeroOf Try.prog 65 = some (.nilFunc) := by kernel_rfl
theorem sh66 : shapeOf Try.prog 66 = some (false, 1) := by kernel_rfl
theorem sh67 : shapeOf Try.prog 67 = some (false, 1) := by kernel_rfl
theorem ze67 : zeroOf Try.prog 67 = some (.nilFunc) := by kernel_rfl
theorem sh68 : shapeOf Try.prog 68 = some (false, 1) := by kernel_rfl
theorem sh69 : shapeOf Try.prog 69 = some (false, 1) := by kernel_rfl
theorem ze69 : zeroOf Try.prog 69 = some (.nilFunc) := by kernel_rfl
theorem sh70 : shapeOf Try.prog 70 = some (false, 1) := by kernel_rfl
theorem ze70 : zeroOf Try.prog 70 = some (.nilFunc) := by kernel_rfl
theorem sh71 : shapeOf Try.prog 71 = some (false, 1) := by kernel_rfl
theorem sh72 : shapeOf Try.prog 72 = some (false, 1) := by kernel_rfl
theorem ze72 : zeroOf Try.prog 72 = some (.nilFunc) := by kernel_rfl
theorem sh73 : shapeOf Try.prog 73 = some (false, 1) := by kernel_rfl
theorem ze73 : zeroOf Try.prog 73 = some (.nilFunc) := by kernel_rfl
theorem sh74 : shapeOf Try.prog 74 = some (false, 1) := by kernel_rfl
theorem ze74 : zeroOf Try.prog 74 = some (.nilFunc) := by kernel_rfl
theorem sh75 : shapeOf Try.prog 75 = some (false, 1) := by kernel_rfl
theorem ze75 : zeroOf Try.prog 75 = some (.nilFunc) := by kernel_rfl
theorem sh76 : shapeOf Try.prog 76 = some (false, 1) := by kernel_rfl
theorem ze76 : zeroOf Try.prog 76 = some (.nilFunc) := by kernel_rfl
theorem sh77 : shapeOf Try.prog 77 = some (false, 1) := by kernel_rfl
theorem ze77 : zeroOf Try.prog 77 = some (.nilFunc) := by kernel_rfl
theorem sh78 : shapeOf Try.prog 78 = some (false, 1) := by kernel_rfl
theorem ze78 : zeroOf Try.prog 78 = some (.nilFunc) := by kernel_rfl
theorem ar79 : arrElem Try.prog 79 = some (6, 4, 1) := by kernel_rfl
theorem sl79 : sliceElem Try.prog 79 = none := by kernel_rfl
theorem sh79 : shapeOf Try.prog 79 = some (true, 6) := by kernel_rfl
theorem ze79 : zeroOf Try.prog 79 = some (.agg #[.bool false, .bool false, .bool false, .bool false, .bool false, .bool false]) := by kernel_rfl
theorem fd80_0 : fieldOf Try.prog 80 0 = some (0, 22, 1) := by kernel_rfl
theorem fd80_1 : fieldOf Try.prog 80 1 = some (1, 3, 1) := by kernel_rfl
theorem fd80_2 : fieldOf Try.prog 80 2 = some (2, 29, 1) := by kernel_rfl
theorem fd80_3 : fieldOf Try.prog 80 3 = some (3, 79, 6) := by kernel_rfl
theorem fd80_4 : fieldOf Try.prog 80 4 = some (9, 29, 1) := by kernel_rfl
theorem fd80_5 : fieldOf Try.prog 80 5 = some (10, 3, 1) := by kernel_rfl
theorem fo80 : fieldsOk Try.prog 80 = true := by kernel_rfl
theorem sh80 : shapeOf Try.prog 80 = some (true, 11) := by kernel_rfl
theorem ze80 : zeroOf Try.prog 80 = some (.agg #[.slice none 0 0, .int .i64 0, .slice none 0 0, .bool false, .bool false, .bool false, .bool false, .bool false, .bool false, .slice none 0 0, .int .i64 0]) := by kernel_rfl
theorem fd81_0 : fieldOf Try.prog 81 0 = some (0, 22, 1) := by kernel_rfl
theorem fd81_1 : fieldOf Try.prog 81 1 = some (1, 3, 1) := by kernel_rfl
theorem fd81_2 : fieldOf Try.prog 81 2 = some (2, 29, 1) := by kernel_rfl
theorem fd81_3 : fieldOf Try.prog 81 3 = some (3, 79, 6) := by kernel_rfl
theorem fd81_4 : fieldOf Try.prog 81 4 = some (9, 29, 1) := by kernel_rfl
theorem fd81_5 : fieldOf Try.prog 81 5 = some (10, 3, 1) := by kernel_rfl
theorem fo81 : fieldsOk Try.prog 81 = true := by kernel_rfl
theorem sh81 : shapeOf Try.prog 81 = some (true, 11) := by kernel_rfl
theorem ze81 : zeroOf Try.prog 81 = some (.agg #[.slice none 0 0, .int .i64 0, .slice none 0 0, .bool false, .bool false, .bool false, .bool false, .bool false, .bool false, .slice none 0 0, .int .i64 0]) := by kernel_rfl
theorem sh82 : shapeOf Try.prog 82 = some (false, 1) := by kernel_rfl
theorem ze82 : zeroOf Try.prog 82 = some (.nilFunc) := by kernel_rfl
theorem sh83 : shapeOf Try.prog 83 = some (false, 1) := by kernel_rfl
theorem ze83 : zeroOf Try.prog 83 = some (.nilFunc) := by kernel_rfl
theorem sh84 : shapeOf Try.prog 84 = some (false, 1) := by kernel_rfl
theorem ze84 : zeroOf Try.prog 84 = some (.nilFunc) := by kernel_rfl
theorem sh85 : shapeOf Try.prog 85 = some (false, 1) := by kernel_rfl
theorem ze85 : zeroOf Try.prog 85 = some (.nilFunc) := by kernel_rfl
theorem sh86 : shapeOf Try.prog 86 = some (false, 1) := by kernel_rfl
theorem ze86 : zeroOf Try.prog 86 = some (.nilFunc) := by kernel_rfl
theorem sh87 : shapeOf Try.prog 87 = some (false, 1) := by kernel_rfl
theorem ze87 : zeroOf Try.prog 87 = some (.int .u64 0) := by kernel_rfl
theorem sh88 : shapeOf Try.prog 88 = some (false, 1) := by kernel_rfl
theorem ze88 : zeroOf Try.prog 88 = some (.nilFunc) := by kernel_rfl
theorem sh89 : shapeOf Try.prog 89 = some (false, 1) := by kernel_rfl
theorem ze89 : zeroOf Try.prog 89 = some (.nilFunc) := by kernel_rfl
theorem sh90 : shapeOf Try.prog 90 = some (false, 1) := by kernel_rfl
theorem ze90 : zeroOf Try.prog 90 = some (.nilFunc) := by kernel_rfl
theorem sh91 : shapeOf Try.prog 91 = some (false, 1) := by kernel_rfl
theorem ze91 : zeroOf Try.prog 91 = some (.nilFunc) := by kernel_rfl
theorem fd92_0 : fieldOf Try.prog 92 0 = some (0, 87, 1) := by kernel_rfl
theorem fd92_1 : fieldOf Try.prog 92 1 = some (1, 87, 1) := by kernel_rfl
theorem fo92 : fieldsOk Try.prog 92 = true := by kernel_rfl
theorem sh92 : shapeOf Try.prog 92 = some (true, 2) := by kernel_rfl
theorem ze92 : zeroOf Try.prog 92 = some (.agg #[.int .u64 0, .int .u64 0]) := by kernel_rfl
theorem fd93_0 : fieldOf Try.prog 93 0 = some (0, 87, 1) := by kernel_rfl
theorem fd93_1 : fieldOf Try.prog 93 1 = some (1, 87, 1) := by kernel_rfl
theorem fo93 : fieldsOk Try.prog 93 = true := by kernel_rfl
theorem sh93 : shapeOf Try.prog 93 = some (true, 2) := by kernel_rfl
theorem ze93 : zeroOf Try.prog 93 = some (.agg #[.int .u64 0, .int .u64 0]) := by kernel_rfl
theorem sh94 : shapeOf Try.prog 94 = some (false, 1) := by kernel_rfl
theorem ze94 : zeroOf Try.prog 94 = some (.nilFunc) := by kernel_rfl
theorem sh95 : shapeOf Try.prog 95 = some (false, 1) := by kernel_rfl
theorem ze95 : zeroOf Try.prog 95 = some (.nilFunc) := by kernel_rfl
theorem sh96 : shapeOf Try.prog 96 = some (false, 1) := by kernel_rfl
theorem ze96 : zeroOf Try.prog 96 = some (.nilFunc) := by kernel_rfl
theorem sh97 : shapeOf Try.prog 97 = some (false, 1) := by kernel_rfl
theorem sh98 : shapeOf Try.prog 98 = some (false, 1) := by kernel_rfl
theorem ze98 : zeroOf Try.prog 98 = some (.nilFunc) := by kernel_rfl
theorem sh99 : shapeOf Try.prog 99 = some (false, 1) := by kernel_rfl
theorem ze99 : zeroOf Try.prog 99 = some (.nilFunc) := by kernel_rfl
theorem sh100 : shapeOf Try.prog 100 = some (false, 1) := by kernel_rfl
theorem ze100 : zeroOf Try.prog 100 = some (.nilFunc) := by kernel_rfl
theorem sh101 : shapeOf Try.prog 101 = some (false, 1) := by kernel_rfl
theorem ze101 : zeroOf Try.prog 101 = some (.nilFunc) := by kernel_rfl
theorem sh102 : shapeOf Try.prog 102 = some (false, 1) := by kernel_rfl
theorem ze102 : zeroOf Try.prog 102 = some (.nilFunc) := by kernel_rfl
theorem sh103 : shapeOf Try.prog 103 = some (false, 1) := by kernel_rfl
theorem ze103 : zeroOf Try.prog 103 = some (.pointer none) := by kernel_rfl
theorem sh104 : shapeOf Try.prog 104 = some (false, 1) := by kernel_rfl
theorem ze104 : zeroOf Try.prog 104 = some (.nilFunc) := by kernel_rfl
theorem sh105 : shapeOf Try.prog 105 = some (false, 1) := by kernel_rfl
theorem ze105 : zeroOf Try.prog 105 = some (.nilFunc) := by kernel_rfl
theorem sh106 : shapeOf Try.prog 106 = some (false, 1) := by kernel_rfl
theorem ze106 : zeroOf Try.prog 106 = some (.nilFunc) := by kernel_rfl
theorem sh107 : shapeOf Try.prog 107 = some (false, 1) := by kernel_rfl
theorem ze107 : zeroOf Try.prog 107 = some (.int .u64 0) := by kernel_rfl
theorem sh108 : shapeOf Try.prog 108 = some (false, 1) := by kernel_rfl
theorem ze108 : zeroOf Try.prog 108 = some (.nilFunc) := by kernel_rfl
theorem sh109 : shapeOf Try.prog 109 = some (false, 1) := by kernel_rfl
theorem ze109 : zeroOf Try.prog 109 = some (.nilFunc) := by kernel_rfl
theorem sh110 : shapeOf Try.prog 110 = some (false, 1) := by kernel_rfl
theorem sh111 : shapeOf Try.prog 111 = some (false, 1) := by kernel_rfl
theorem ze111 : zeroOf Try.prog 111 = some (.nilFunc) := by kernel_rfl
theorem sh112 : shapeOf Try.prog 112 = some (false, 1) := by kernel_rfl
theorem ze112 : zeroOf Try.prog 112 = some (.nilFunc) := by kernel_rfl
theorem sh113 : shapeOf Try.prog 113 = some (false, 1) := by kernel_rfl
theorem ze113 : zeroOf Try.prog 113 = some (.nilFunc) := by kernel_rfl
theorem sh114 : shapeOf Try.prog 114 = some (false, 1) := by kernel_rfl
theorem ze114 : zeroOf Try.prog 114 = some (.nilFunc) := by kernel_rfl
theorem sh115 : shapeOf Try.prog 115 = some (false, 1) := by kernel_rfl
theorem ze115 : zeroOf Try.prog 115 = some (.nilFunc) := by kernel_rfl
theorem sh116 : shapeOf Try.prog 116 = some (false, 1) := by kernel_rfl
theorem ze116 : zeroOf Try.prog 116 = some (.nilFunc) := by kernel_rfl
theorem sl117 : sliceElem Try.prog 117 = some (33, 1, 8) := by kernel_rfl
theorem ar117 : arrElem Try.prog 117 = none := by kernel_rfl
theorem sh117 : shapeOf Try.prog 117 = some (false, 1) := by kernel_rfl
theorem ze117 : zeroOf Try.prog 117 = some (.slice none 0 0) := by kernel_rfl
theorem sh118 : shapeOf Try.prog 118 = some (false, 1) := by kernel_rfl
theorem ze118 : zeroOf Try.prog 118 = some (.nilIface) := by kernel_rfl
theorem sh119 : shapeOf Try.prog 119 = some (false, 1) := by kernel_rfl
theorem ze119 : zeroOf Try.prog 119 = some (.nilIface) := by kernel_rfl
theorem sh120 : shapeOf Try.prog 120 = some (false, 1) := by kernel_rfl
theorem ze120 : zeroOf Try.prog 120 = some (.nilFunc) := by kernel_rfl
theorem sh121 : shapeOf Try.prog 121 = some (false, 1) := by kernel_rfl
theorem ze121 : zeroOf Try.prog 121 = some (.nilFunc) := by kernel_rfl
theorem sh122 : shapeOf Try.prog 122 = some (false, 1) := by kernel_rfl
theorem ze122 : zeroOf Try.prog 122 = some (.int .i64 0) := by kernel_rfl
theorem sh123 : shapeOf Try.prog 123 = some (false, 1) := by kernel_rfl
theorem sh124 : shapeOf Try.prog 124 = some (false, 1) := by kernel_rfl
theorem ze124 : zeroOf Try.prog 124 = some (.nilFunc) := by kernel_rfl
theorem sh125 : shapeOf Try.prog 125 = some (false, 1) := by kernel_rfl
theorem ze125 : zeroOf Try.prog 125 = some (.nilFunc) := by kernel_rfl
theorem sh126 : shapeOf Try.prog 126 = some (false, 1) := by kernel_rfl
theorem ze126 : zeroOf Try.prog 126 = some (.nilFunc) := by kernel_rfl
theorem sh127 : shapeOf Try.prog 127 = some (false, 1) := by kernel_rfl
theorem ze127 : zeroOf Try.prog 127 = some (.nilFunc) := by kernel_rfl
theorem sh128 : shapeOf Try.prog 128 = some (false, 1) := by kernel_rfl
theorem sh129 : shapeOf Try.prog 129 = some (false, 1) := by kernel_rfl
theorem ze129 : zeroOf Try.prog 129 = some (.nilFunc) := by kernel_rfl
theorem sh130 : shapeOf Try.prog 130 = some (false, 1) := by kernel_rfl
theorem ze130 : zeroOf Try.prog 130 = some (.nilFunc) := by kernel_rfl
theorem sh131 : shapeOf Try.prog 131 = some (false, 1) := by kernel_rfl
theorem ze131 : zeroOf Try.prog 131 = some (.int .u32 0) := by kernel_rfl
theorem sh132 : shapeOf Try.prog 132 = some (false, 1) := by kernel_rfl
theorem ze132 : zeroOf Try.prog 132 = some (.int .u64 0) := by kernel_rfl
theorem sh133 : shapeOf Try.prog 133 = some (false, 1) := by kernel_rfl
theorem ze133 : zeroOf Try.prog 133 = some (.nilFunc) := by kernel_rfl
theorem sh134 : shapeOf Try.prog 134 = some (false, 1) := by kernel_rfl
theorem ze134 : zeroOf Try.prog 134 = some (.nilFunc) := by kernel_rfl
theorem sh135 : shapeOf Try.prog 135 = some (false, 1) := by kernel_rfl
theorem ze135 : zeroOf Try.prog 135 = some (.nilFunc) := by kernel_rfl
theorem sh136 : shapeOf Try.prog 136 = some (false, 1) := by kernel_rfl
theorem ze136 : zeroOf Try.prog 136 = some (.pointer none) := by kernel_rfl
theorem sh137 : shapeOf Try.prog 137 = some (false, 1) := by kernel_rfl
theorem ze137 : zeroOf Try.prog 137 = some (.nilFunc) := by kernel_rfl
theorem sh138 : shapeOf Try.prog 138 = some (false, 1) := by kernel_rfl
theorem ze138 : zeroOf Try.prog 138 = some (.pointer none) := by kernel_rfl
theorem sh139 : shapeOf Try.prog 139 = some (false, 1) := by kernel_rfl
theorem sh140 : shapeOf Try.prog 140 = some (false, 1) := by kernel_rfl
theorem ze140 : zeroOf Try.prog 140 = some (.nilFunc) := by kernel_rfl
theorem sh141 : shapeOf Try.prog 141 = some (false, 1) := by kernel_rfl
theorem ze141 : zeroOf Try.prog 141 = some (.pointer none) := by kernel_rfl
theorem sh142 : shapeOf Try.prog 142 = some (false, 1) := by kernel_rfl
theorem ze142 : zeroOf Try.prog 142 = some (.nilFunc) := by kernel_rfl
theorem fd143_0 : fieldOf Try.prog 143 0 = some (0, 17, 1) := by kernel_rfl
theorem fd143_1 : fieldOf Try.prog 143 1 = some (1, 17, 1) := by kernel_rfl
theorem fd143_2 : fieldOf Try.prog 143 2 = some (2, 17, 1) := by kernel_rfl
theorem fd143_3 : fieldOf Try.prog 143 3 = some (3, 9, 1) := by kernel_rfl
theorem fo143 : fieldsOk Try.prog 143 = true := by kernel_rfl
theorem sh143 : shapeOf Try.prog 143 = some (true, 4) := by kernel_rfl
theorem fd144_0 : fieldOf Try.prog 144 0 = some (0, 17, 1) := by kernel_rfl
theorem fd144_1 : fieldOf Try.prog 144 1 = some (1, 17, 1) := by kernel_rfl
theorem fd144_2 : fieldOf Try.prog 144 2 = some (2, 17, 1) := by kernel_rfl
theorem fd144_3 : fieldOf Try.prog 144 3 = some (3, 9, 1) := by kernel_rfl
theorem fo144 : fieldsOk Try.prog 144 = true := by kernel_rfl
theorem sh144 : shapeOf Try.prog 144 = some (true, 4) := by kernel_rfl
theorem ar145 : arrElem Try.prog 145 = some (0, 16, 1) := by kernel_rfl
theorem sl145 : sliceElem Try.prog 145 = none := by kernel_rfl
theorem sh145 : shapeOf Try.prog 145 = some (true, 0) := by kernel_rfl
theorem ze145 : zeroOf Try.prog 145 = some (.agg #[]) := by kernel_rfl
theorem fd146_0 : fieldOf Try.prog 146 0 = some (0, 145, 0) := by kernel_rfl
theorem fo146 : fieldsOk Try.prog 146 = true := by kernel_rfl
theorem sh146 : shapeOf Try.prog 146 = some (true, 0) := by kernel_rfl
theorem ze146 : zeroOf Try.prog 146 = some (.agg #[]) := by kernel_rfl
theorem fd147_0 : fieldOf Try.prog 147 0 = some (0, 145, 0) := by kernel_rfl
theorem fo147 : fieldsOk Try.prog 147 = true := by kernel_rfl
theorem sh147 : shapeOf Try.prog 147 = some (true, 0) := by kernel_rfl
theorem ze147 : zeroOf Try.prog 147 = some (.agg #[]) := by kernel_rfl
theorem sh148 : shapeOf Try.prog 148 = some (false, 1) := by kernel_rfl
theorem ze148 : zeroOf Try.prog 148 = some (.nilFunc) := by kernel_rfl
theorem sh149 : shapeOf Try.prog 149 = some (false, 1) := by kernel_rfl
theorem ze149 : zeroOf Try.prog 149 = some (.int .u8 0) := by kernel_rfl
theorem sh150 : shapeOf Try.prog 150 = some (false, 1) := by kernel_rfl
theorem ze150 : zeroOf Try.prog 150 = some (.int .u8 0) := by kernel_rfl
theorem sh151 : shapeOf Try.prog 151 = some (false, 1) := by kernel_rfl
theorem ze151 : zeroOf Try.prog 151 = some (.nilFunc) := by kernel_rfl
theorem sh152 : shapeOf Try.prog 152 = some (false, 1) := by kernel_rfl
theorem ze152 : zeroOf Try.prog 152 = some (.pointer none) := by kernel_rfl
theorem sh153 : shapeOf Try.prog 153 = some (false, 1) := by kernel_rfl
theorem ze153 : zeroOf Try.prog 153 = some (.int .i32 0) := by kernel_rfl
theorem sh154 : shapeOf Try.prog 154 = some (false, 1) := by kernel_rfl
theorem ze154 : zeroOf Try.prog 154 = some (.int .i32 0) := by kernel_rfl
theorem fd155_0 : fieldOf Try.prog 155 0 = some (0, 12, 1) := by kernel_rfl
theorem fd155_1 : fieldOf Try.prog 155 1 = some (1, 12, 1) := by kernel_rfl
theorem fd155_2 : fieldOf Try.prog 155 2 = some (2, 131, 1) := by kernel_rfl
theorem fd155_3 : fieldOf Try.prog 155 3 = some (3, 149, 1) := by kernel_rfl
theorem fd155_4 : fieldOf Try.prog 155 4 = some (4, 5, 1) := by kernel_rfl
theorem fd155_5 : fieldOf Try.prog 155 5 = some (5, 5, 1) := by kernel_rfl
theorem fd155_6 : fieldOf Try.prog 155 6 = some (6, 150, 1) := by kernel_rfl
theorem fd155_7 : fieldOf Try.prog 155 7 = some (7, 151, 1) := by kernel_rfl
theorem fd155_8 : fieldOf Try.prog 155 8 = some (8, 152, 1) := by kernel_rfl
theorem fd155_9 : fieldOf Try.prog 155 9 = some (9, 153, 1) := by kernel_rfl
theorem fd155_10 : fieldOf Try.prog 155 10 = some (10, 154, 1) := by kernel_rfl
theorem fo155 : fieldsOk Try.prog 155 = true := by kernel_rfl
theorem sh155 : shapeOf Try.prog 155 = some (true, 11) := by kernel_rfl
theorem ze155 : zeroOf Try.prog 155 = some (.agg #[.int .u64 0, .int .u64 0, .int .u32 0, .int .u8 0, .int .u8 0, .int .u8 0, .int .u8 0, .nilFunc, .pointer none, .int .i32 0, .int .i32 0]) := by kernel_rfl
theorem fd156_0 : fieldOf Try.prog 156 0 = some (0, 12, 1) := by kernel_rfl
theorem fd156_1 : fieldOf Try.prog 156 1 = some (1, 12, 1) := by kernel_rfl
theorem fd156_2 : fieldOf Try.prog 156 2 = some (2, 131, 1) := by kernel_rfl
theorem fd156_3 : fieldOf Try.prog 156 3 = some (3, 149, 1) := by kernel_rfl
theorem fd156_4 : fieldOf Try.prog 156 4 = some (4, 5, 1) := by kernel_rfl
theorem fd156_5 : fieldOf Try.prog 156 5 = some (5, 5, 1) := by kernel_rfl
theorem fd156_6 : fieldOf Try.prog 156 6 = some (6, 150, 1) := by kernel_rfl
theorem fd156_7 : fieldOf Try.prog 156 7 = some (7, 151, 1) := by kernel_rfl
theorem fd156_8 : fieldOf Try.prog 156 8 = some (8, 152, 1) := by kernel_rfl
theorem fd156_9 : fieldOf Try.prog 156 9 = some (9, 153, 1) := by kernel_rfl
theorem fd156_10 : fieldOf Try.prog 156 10 = some (10, 154, 1) := by kernel_rfl
theorem fo156 : fieldsOk Try.prog 156 = true := by kernel_rfl
theorem sh156 : shapeOf Try.prog 156 = some (true, 11) := by kernel_rfl
theorem ze156 : zeroOf Try.prog 156 = some (.agg #[.int .u64 0, .int .u64 0, .int .u32 0, .int .u8 0, .int .u8 0, .int .u8 0, .int .u8 0, .nilFunc, .pointer none, .int .i32 0, .int .i32 0]) := by kernel_rfl
theorem fd157_0 : fieldOf Try.prog 157 0 = some (0, 9, 1) := by kernel_rfl
theorem fo157 : fieldsOk Try.prog 157 = true := by kernel_rfl
theorem sh157 : shapeOf Try.prog 157 = some (true, 1) := by kernel_rfl
theorem fd158_0 : fieldOf Try.prog 158 0 = some (0, 9, 1) := by kernel_rfl
theorem fo158 : fieldsOk Try.prog 158 = true := by kernel_rfl
theorem sh158 : shapeOf Try.prog 158 = some (true, 1) := by kernel_rfl
theorem sh159 : shapeOf Try.prog 159 = some (false, 1) := by kernel_rfl
theorem ze159 : zeroOf Try.prog 159 = some (.pointer none) := by kernel_rfl
end Go.Proofs.Ytfgnjndicidpkaa
