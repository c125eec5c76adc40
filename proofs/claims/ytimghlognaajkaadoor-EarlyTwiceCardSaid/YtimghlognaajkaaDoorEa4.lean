/- Closed runs of the law EarlyTwice: the first kind is 0. No statement of the seat is proved here. -/
import Derived.Test.YtimghlognaajkaaDoorEa3
set_option maxRecDepth 20000
namespace Go.Proofs.YtimghlognaajkaaDoor
open Go.Rex Go.RowKit Go.Vcg
set_option maxRecDepth 20000
theorem run_0_0_false : runG Tryd.prog 1000 memoL T1 400 (restOf (Rex.nth Tryd.prog.funcs.toList 3)) 76 [(0, .int .i64 0), (1, .int .i64 0), (2, .bool false)] [.tmp 6] = some (.bool true) := by kernel_rfl
theorem run_0_0_true : runG Tryd.prog 1000 memoL T1 400 (restOf (Rex.nth Tryd.prog.funcs.toList 3)) 76 [(0, .int .i64 0), (1, .int .i64 0), (2, .bool true)] [.tmp 6] = some (.bool true) := by kernel_rfl
theorem run_0_1_false : runG Tryd.prog 1000 memoL T1 400 (restOf (Rex.nth Tryd.prog.funcs.toList 3)) 76 [(0, .int .i64 0), (1, .int .i64 1), (2, .bool false)] [.tmp 6] = some (.bool true) := by kernel_rfl
theorem run_0_1_true : runG Tryd.prog 1000 memoL T1 400 (restOf (Rex.nth Tryd.prog.funcs.toList 3)) 76 [(0, .int .i64 0), (1, .int .i64 1), (2, .bool true)] [.tmp 6] = some (.bool true) := by kernel_rfl
theorem run_0_2_false : runG Tryd.prog 1000 memoL T1 400 (restOf (Rex.nth Tryd.prog.funcs.toList 3)) 76 [(0, .int .i64 0), (1, .int .i64 2), (2, .bool false)] [.tmp 6] = some (.bool true) := by kernel_rfl
theorem run_0_2_true : runG Tryd.prog 1000 memoL T1 400 (restOf (Rex.nth Tryd.prog.funcs.toList 3)) 76 [(0, .int .i64 0), (1, .int .i64 2), (2, .bool true)] [.tmp 6] = some (.bool true) := by kernel_rfl
end Go.Proofs.YtimghlognaajkaaDoor
