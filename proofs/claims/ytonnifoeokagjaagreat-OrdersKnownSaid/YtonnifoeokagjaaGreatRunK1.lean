/-
  The abstract machine runs OrdersKnown up to the first state that is written out. No condition.
-/
import Derived.Test.YtonnifoeokagjaaGreatRunD
namespace Go.Proofs.YtonnifoeokagjaaGreat
open Go Go.RowKit
namespace Abs

theorem seg1 : runTo Tryz.prog 19439 (knheap1.map (·.1)) kstart = some knat1 := by kernel_rfl

end Abs
end Go.Proofs.YtonnifoeokagjaaGreat
