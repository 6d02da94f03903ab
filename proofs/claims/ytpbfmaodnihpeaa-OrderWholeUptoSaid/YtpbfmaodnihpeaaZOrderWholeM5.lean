/-
  Parts of the proof of OrderWholeUptoSaid, put together: the abstract evaluation and its contracts. Own work.
  What is proved: each lemma as it stands; no condition.
-/
import Derived.Test.YtpbfmaodnihpeaaZOrderWholeM4

section
/-
  OrderKnown, worked out by the kernel. Own work.
  What is proved: the evaluation tells true; no condition.
-/
namespace Go.Proofs.Ytpbfmaodnihpeaa
open Go.Av
set_option maxRecDepth 1000000
theorem orderKnown_ev : EVs (EV cfg) 5 [] = some (.bool true) := EVs_x 1000 1000 (by kernel_rfl)
end Go.Proofs.Ytpbfmaodnihpeaa
end
