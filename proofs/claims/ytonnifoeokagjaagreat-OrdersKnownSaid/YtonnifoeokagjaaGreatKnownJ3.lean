/-
  A fact of the row of OrdersKnown that the kernel reckons out. No condition.
-/
import Derived.Test.YtonnifoeokagjaaGreatRows
import Derived.JoinedOf
namespace Go.Proofs.YtonnifoeokagjaaGreat
open Go

theorem in_place : (Rows.ordersKnownRow.inPlace == Tryz.prog.inPlace 3) = true := by kernel_rfl

end Go.Proofs.YtonnifoeokagjaaGreat
