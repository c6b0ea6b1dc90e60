/- The closed facts of the card, one by one. -/
import Derived.Test.YtjmammdlefbemaaGreatDoorCards
import Derived.ProofKit
set_option maxRecDepth 100000
namespace Go.Proofs.YtjmammdlefbemaaGreatDoor.topAnsweredHere
open Go
theorem c_wf : Rows.topAnsweredHereRow.wfByText (OpenSpec.ofChange Rows.topAnsweredHereSpec) = true := by kernel_rfl
theorem c_main : Tryz.prog.mainIs = some (true, "8acebe2e4ff797f77be2ea8d95a64d3c8683a075a9627bd04f42aed251324de7".toList) := by kernel_rfl
theorem c_looks : true = Tryz.prog.looks [] := by kernel_rfl
theorem c_stand : ([62, 4, 4, 31].all fun u => !Tryz.prog.wantsStandIn u) = true := by kernel_rfl
theorem c_goes : false = Rows.topAnsweredHereRow.goesBy Tryz.prog := by kernel_rfl
end Go.Proofs.YtjmammdlefbemaaGreatDoor.topAnsweredHere
