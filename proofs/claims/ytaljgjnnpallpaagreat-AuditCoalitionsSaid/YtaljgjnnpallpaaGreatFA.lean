/- A closed call, evaluated: symbol.Build. A closed call, evaluated: symbol.Build. A closed call, evaluated: symbol.Build. -/
import Derived.Test.YtaljgjnnpallpaaGreatKA
import Derived.KernelRfl
section
set_option maxRecDepth 100000
namespace Go.Ab
open Go.RowKit Go.Proofs
theorem fb0 : PureCall Tryz.prog 19 [.agg [.int .i64 2, .int .i64 3, .int .i64 2, .int .i64 0], .agg [.int .i64 5], .int .i64 2, .vals 1 [.int .i64 0] true, .vals 1 [.int .i64 1, .int .i64 2] true] (.tuple [.agg [.int .i64 4, .int .i64 4, .vals 1 [.int .i64 1, .int .i64 1, .int .i64 0, .int .i64 0, .int .i64 0, .int .i64 0, .int .i64 1, .int .i64 1, .int .i64 2, .int .i64 4, .int .i64 0, .int .i64 0, .int .i64 0, .int .i64 0, .int .i64 2, .int .i64 4] true, .vals 1 [.int .i64 1, .int .i64 0, .int .i64 1, .int .i64 0] false], .int .i64 0]) :=
  runs (l := []) noFacts (by kernel_rfl)
end Go.Ab
end
section
set_option maxRecDepth 100000
namespace Go.Ab
open Go.RowKit Go.Proofs
theorem fb1 : PureCall Tryz.prog 19 [.agg [.int .i64 2, .int .i64 3, .int .i64 2, .int .i64 0], .agg [.int .i64 5], .int .i64 2, .vals 1 [.int .i64 1] true, .vals 1 [.int .i64 1, .int .i64 2] true] (.tuple [.agg [.int .i64 4, .int .i64 4, .vals 1 [.int .i64 1, .int .i64 1, .int .i64 0, .int .i64 0, .int .i64 0, .int .i64 0, .int .i64 1, .int .i64 1, .int .i64 2, .int .i64 4, .int .i64 0, .int .i64 0, .int .i64 0, .int .i64 0, .int .i64 2, .int .i64 4] true, .vals 1 [.int .i64 0, .int .i64 1, .int .i64 0, .int .i64 1] false], .int .i64 0]) :=
  runs (l := []) noFacts (by kernel_rfl)
end Go.Ab
end
section
set_option maxRecDepth 100000
namespace Go.Ab
open Go.RowKit Go.Proofs
theorem fb2 : PureCall Tryz.prog 19 [.agg [.int .i64 2, .int .i64 3, .int .i64 2, .int .i64 0], .agg [.int .i64 5], .int .i64 2, .vals 1 [.int .i64 0] true, .vals 1 [.int .i64 1, .int .i64 3] true] (.tuple [.agg [.int .i64 4, .int .i64 4, .vals 1 [.int .i64 1, .int .i64 1, .int .i64 0, .int .i64 0, .int .i64 0, .int .i64 0, .int .i64 1, .int .i64 1, .int .i64 3, .int .i64 4, .int .i64 0, .int .i64 0, .int .i64 0, .int .i64 0, .int .i64 3, .int .i64 4] true, .vals 1 [.int .i64 1, .int .i64 0, .int .i64 1, .int .i64 0] false], .int .i64 0]) :=
  runs (l := []) noFacts (by kernel_rfl)
end Go.Ab
end
