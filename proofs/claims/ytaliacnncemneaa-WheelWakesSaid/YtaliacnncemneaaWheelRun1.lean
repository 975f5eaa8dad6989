/- The law's runs. Conditions: those that each theorem names. -/
import Derived.Test.YtaliacnncemneaaWheelLaw
open Go
noncomputable section

namespace Go.Proofs.Ytaliacnncemneaa.wheels
open Go.Abs Go.Proofs.Wheels
set_option maxRecDepth 1000000
theorem lawJ_11 : runLaw (pcLaw 11) (lawL fns 11) (lawF PG) true = true := by kernel_rfl
theorem lawJ_12 : runLaw (pcLaw 12) (lawL fns 12) (lawF PG) true = true := by kernel_rfl
theorem lawJ_13 : runLaw (pcLaw 13) (lawL fns 13) (lawF PG) true = true := by kernel_rfl
theorem lawJ_14 : runLaw (pcLaw 14) (lawL fns 14) (lawF PG) true = true := by kernel_rfl
theorem lawJ_15 : runLaw (pcLaw 15) (lawL fns 15) (lawF PG) true = true := by kernel_rfl
theorem lawJ_16 : runLaw (pcLaw 16) (lawL fns 16) (lawF PG) true = true := by kernel_rfl
theorem lawJ_17 : runLaw (pcLaw 17) (lawL fns 17) (lawF PG) true = true := by kernel_rfl
theorem lawJ_18 : runLaw (pcLaw 18) (lawL fns 18) (lawF PG) true = true := by kernel_rfl
theorem lawJ_19 : runLaw (pcLaw 19) (lawL fns 19) (lawF PG) true = true := by kernel_rfl
theorem lawJ_20 : runLaw (pcLaw 20) (lawL fns 20) (lawF PG) true = true := by kernel_rfl
end Go.Proofs.Ytaliacnncemneaa.wheels
end
