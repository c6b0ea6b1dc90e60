/- works() comes to true. -/
import Derived.Test.YtjmammdlefbemaaGreatDoorCxB
set_option maxRecDepth 100000
namespace Go.Ae.S
open Go.Ae
theorem works_run : Nat.beq (cy C ib ov 400 false 7 [] .nil 0 (chkBool true)) 0 = true := by kernel_rfl
end Go.Ae.S
