/- The theorem quiet_holds of OrdersQuiet: part 19 of its proof; no conditions. -/
import Derived.Test.YtonnifoeokagjaaGreatF18
import Derived.Test.YtonnifoeokagjaaGreatRows
import Derived.JoinedOf
namespace Go.Proofs.YtonnifoeokagjaaGreat
set_option linter.all false
set_option maxRecDepth 8000
open Option renaming some->J,none->B
open Bool renaming true->M,false->R
open List renaming length->O
theorem vL:laidOutB Tryz.prog=true:=by kernel_rfl
theorem M7:mapsRowed Tryz.prog=true:=by kernel_rfl
theorem SR:(Rows.ordersQuietRow.inPlace==Tryz.prog.inPlace 5)=true:=by kernel_rfl
theorem JD:(Rows.ordersQuietRow.unfollowed==Tryz.prog.unfollowed 5)=true:=by kernel_rfl
theorem Rx:(Rows.ordersQuietRow.recurses==Tryz.prog.recurses 5)=true:=by kernel_rfl
theorem Mj:(Rows.ordersQuietRow.named==Tryz.prog.varsNamed 5)=true:=by kernel_rfl
end Go.Proofs.YtonnifoeokagjaaGreat
