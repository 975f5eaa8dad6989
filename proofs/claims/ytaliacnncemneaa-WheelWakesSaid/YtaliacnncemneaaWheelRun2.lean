/- The law's runs. Conditions: those that each theorem names. -/
import Derived.Test.YtaliacnncemneaaWheelLaw
open Go
noncomputable section

namespace Go.Proofs.Ytaliacnncemneaa.wheels
open Go.Abs Go.Proofs.Wheels
set_option maxRecDepth 1000000
theorem lawJ_21 : runLaw (pcLaw 21) (lawL fns 21) (lawF PG) true = true := by kernel_rfl
theorem lawJ_22 : runLaw (pcLaw 22) (lawL fns 22) (lawF PG) true = true := by kernel_rfl
theorem lawJ_23 : runLaw (pcLaw 23) (lawL fns 23) (lawF PG) true = true := by kernel_rfl
theorem lawJ_24 : runLaw (pcLaw 24) (lawL fns 24) (lawF PG) true = true := by kernel_rfl
theorem lawJ_25 : runLaw (pcLaw 25) (lawL fns 25) (lawF PG) true = true := by kernel_rfl
theorem lawJ_26 : runLaw (pcLaw 26) (lawL fns 26) (lawF PG) true = true := by kernel_rfl
theorem lawJ_27 : runLaw (pcLaw 27) (lawL fns 27) (lawF PG) true = true := by kernel_rfl
theorem lawJ_28 : runLaw (pcLaw 28) (lawL fns 28) (lawF PG) true = true := by kernel_rfl
theorem lawJ_29 : runLaw (pcLaw 29) (lawL fns 29) (lawF PG) true = true := by kernel_rfl
theorem lawJ_30 : runLaw (pcLaw 30) (lawL fns 30) (lawF PG) true = true := by kernel_rfl
end Go.Proofs.Ytaliacnncemneaa.wheels
end
