/-
  Parts of the proof of OrderWholeUptoSaid, put together: the abstract evaluation and its contracts. Own work.
  What is proved: each lemma as it stands; no condition.
-/
import Derived.Test.YtpbfmaodnihpeaaZOrderWholeM7

section
/-
  OrderWhole of no terms. Own work.
  What is proved: calls with known arguments, worked out by the kernel; no condition.
-/
namespace Go.Proofs.Ytpbfmaodnihpeaa
open Go.Av
set_option maxRecDepth 1000000
theorem orderWhole_em : EVs (EV cfg) 6 [.em] = some (.bool true) := EVs_x 1000 1000 (by kernel_rfl)
end Go.Proofs.Ytpbfmaodnihpeaa
end
