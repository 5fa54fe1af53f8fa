/-
  The abstract machine runs OrdersKnown from the first state that is written out up to the second. No condition.
-/
import Derived.Test.YtonnifoeokagjaaGreatRunD
namespace Go.Proofs.YtonnifoeokagjaaGreat
open Go Go.RowKit
namespace Abs

theorem seg2 : runTo Tryz.prog 16480 (knheap2.map (·.1)) knat1 = some knat2 := by kernel_rfl

end Abs
end Go.Proofs.YtonnifoeokagjaaGreat
