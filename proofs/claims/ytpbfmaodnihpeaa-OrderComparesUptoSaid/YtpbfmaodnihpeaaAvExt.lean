/-
  Functions without a Go body, over abstract values: definitions alone; no condition.
-/
import Derived.Test.YtpbfmaodnihpeaaAvEval
namespace Go.Av
/-- strings compared by their bytes -/
def extCmp : List AV → AH → Option (AV × AH)
  | [.str a, .str b], H => some (.int .i64 (if a == b then 0 else if Op.bytesLess a b then -1 else 1), H)
  | _, _ => none
end Go.Av
