/-
  The abstract machine runs OrdersKnown from the second state that is written out to its end: true. No condition.
-/
import Derived.Test.YtonnifoeokagjaaGreatRunD
namespace Go.Proofs.YtonnifoeokagjaaGreat
open Go Go.RowKit
namespace Abs

theorem seg3 : runEnd Tryz.prog 3 25772 knat2 = some (.g (.bool true)) := by kernel_rfl

end Abs
end Go.Proofs.YtonnifoeokagjaaGreat
