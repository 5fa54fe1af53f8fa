/-
  A fact of the row of OrdersKnown that the kernel reckons out. No condition.
-/
import Derived.Test.YtonnifoeokagjaaGreatRows
import Derived.JoinedOf
namespace Go.Proofs.YtonnifoeokagjaaGreat
open Go

theorem vars_named : (Rows.ordersKnownRow.named == Tryz.prog.varsNamed 3) = true := by kernel_rfl

end Go.Proofs.YtonnifoeokagjaaGreat
