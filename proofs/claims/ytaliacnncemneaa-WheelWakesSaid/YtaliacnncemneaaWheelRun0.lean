/- The law's runs. Conditions: those that each theorem names. -/
import Derived.Test.YtaliacnncemneaaWheelLaw
open Go
noncomputable section

namespace Go.Proofs.Ytaliacnncemneaa.wheels
open Go.Abs Go.Proofs.Wheels
set_option maxRecDepth 1000000
theorem lawJ_0 : runLaw (pcLaw 0) (lawL fns 0) (lawF PG) true = true := by kernel_rfl
theorem lawJ_1 : runLaw (pcLaw 1) (lawL fns 1) (lawF PG) true = true := by kernel_rfl
theorem lawJ_2 : runLaw (pcLaw 2) (lawL fns 2) (lawF PG) true = true := by kernel_rfl
theorem lawJ_3 : runLaw (pcLaw 3) (lawL fns 3) (lawF PG) true = true := by kernel_rfl
theorem lawJ_4 : runLaw (pcLaw 4) (lawL fns 4) (lawF PG) true = true := by kernel_rfl
theorem lawJ_5 : runLaw (pcLaw 5) (lawL fns 5) (lawF PG) true = true := by kernel_rfl
theorem lawJ_6 : runLaw (pcLaw 6) (lawL fns 6) (lawF PG) true = true := by kernel_rfl
theorem lawJ_7 : runLaw (pcLaw 7) (lawL fns 7) (lawF PG) true = true := by kernel_rfl
theorem lawJ_8 : runLaw (pcLaw 8) (lawL fns 8) (lawF PG) true = true := by kernel_rfl
theorem lawJ_9 : runLaw (pcLaw 9) (lawL fns 9) (lawF PG) true = true := by kernel_rfl
theorem lawJ_10 : runLaw (pcLaw 10) (lawL fns 10) (lawF PG) true = true := by kernel_rfl
end Go.Proofs.Ytaliacnncemneaa.wheels
end
