/- A closed call, evaluated: symbol.Reaches. A closed call, evaluated: symbol.Reaches. A closed call, evaluated: symbol.Reaches. -/
import Derived.Test.YtaljgjnnpallpaaGreatKA
import Derived.KernelRfl
section
set_option maxRecDepth 100000
namespace Go.Ab
open Go.RowKit Go.Proofs
theorem fr3 : PureCall Tryz.prog 33 [.agg [.int .i64 5], .agg [.int .i64 4, .int .i64 4, .vals 1 [.int .i64 1, .int .i64 1, .int .i64 0, .int .i64 0, .int .i64 0, .int .i64 0, .int .i64 1, .int .i64 1, .int .i64 3, .int .i64 4, .int .i64 0, .int .i64 0, .int .i64 0, .int .i64 0, .int .i64 3, .int .i64 4] true, .vals 1 [.int .i64 1, .int .i64 0, .int .i64 1, .int .i64 0] false], .vals 1 [.int .i64 0, .int .i64 1, .int .i64 0, .int .i64 1] false] (.tuple [.bool true, .int .i64 0]) :=
  runs (l := []) noFacts (by kernel_rfl)
end Go.Ab
end
section
set_option maxRecDepth 100000
namespace Go.Ab
open Go.RowKit Go.Proofs
theorem fr4 : PureCall Tryz.prog 33 [.agg [.int .i64 5], .agg [.int .i64 4, .int .i64 4, .vals 1 [.int .i64 2, .int .i64 4, .int .i64 0, .int .i64 0, .int .i64 0, .int .i64 0, .int .i64 2, .int .i64 4, .int .i64 3, .int .i64 4, .int .i64 0, .int .i64 0, .int .i64 0, .int .i64 0, .int .i64 3, .int .i64 4] true, .vals 1 [.int .i64 1, .int .i64 0, .int .i64 1, .int .i64 0] false], .vals 1 [.int .i64 1, .int .i64 0, .int .i64 1, .int .i64 0] false] (.tuple [.bool true, .int .i64 0]) :=
  runs (l := []) noFacts (by kernel_rfl)
end Go.Ab
end
section
set_option maxRecDepth 100000
namespace Go.Ab
open Go.RowKit Go.Proofs
theorem fr5 : PureCall Tryz.prog 33 [.agg [.int .i64 5], .agg [.int .i64 4, .int .i64 4, .vals 1 [.int .i64 2, .int .i64 4, .int .i64 0, .int .i64 0, .int .i64 0, .int .i64 0, .int .i64 2, .int .i64 4, .int .i64 3, .int .i64 4, .int .i64 0, .int .i64 0, .int .i64 0, .int .i64 0, .int .i64 3, .int .i64 4] true, .vals 1 [.int .i64 1, .int .i64 0, .int .i64 1, .int .i64 0] false], .vals 1 [.int .i64 0, .int .i64 1, .int .i64 0, .int .i64 1] false] (.tuple [.bool true, .int .i64 0]) :=
  runs (l := []) noFacts (by kernel_rfl)
end Go.Ab
end
