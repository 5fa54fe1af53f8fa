/- The theorem plans_holds of OrdersPlans: part 18 of its proof; no conditions. -/
import Derived.Test.YtonnifoeokagjaaGreatF17
import Derived.Test.YtonnifoeokagjaaGreatRows
import Derived.JoinedOf
namespace Go.Proofs.YtonnifoeokagjaaGreat
set_option linter.all false
set_option maxRecDepth 8000
open Go
theorem uQ:laidOutB Tryz.prog=true:=by kernel_rfl
theorem KE:mapsRowed Tryz.prog=true:=by kernel_rfl
theorem Rt:(Rows.ordersPlansRow.inPlace==Tryz.prog.inPlace 4)=true:=by kernel_rfl
theorem Il:(Rows.ordersPlansRow.unfollowed==Tryz.prog.unfollowed 4)=true:=by kernel_rfl
theorem O2:(Rows.ordersPlansRow.recurses==Tryz.prog.recurses 4)=true:=by kernel_rfl
theorem Jn:(Rows.ordersPlansRow.named==Tryz.prog.varsNamed 4)=true:=by kernel_rfl
end Go.Proofs.YtonnifoeokagjaaGreat
