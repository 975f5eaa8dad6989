/- The law's runs. Conditions: those that each theorem names. -/
import Derived.Test.YtaliacnncemneaaWheelLaw
open Go
noncomputable section

namespace Go.Proofs.Ytaliacnncemneaa.wheels
open Go.Abs Go.Proofs.Wheels
set_option maxRecDepth 1000000
theorem lawJ_31 : runLaw (pcLaw 31) (lawL fns 31) (lawF PG) true = true := by kernel_rfl
theorem lawJ_32 : runLaw (pcLaw 32) (lawL fns 32) (lawF PG) true = true := by kernel_rfl
theorem lawJ_33 : runLaw (pcLaw 33) (lawL fns 33) (lawF PG) true = true := by kernel_rfl
theorem lawJ_34 : runLaw (pcLaw 34) (lawL fns 34) (lawF PG) true = true := by kernel_rfl
theorem lawJ_35 : runLaw (pcLaw 35) (lawL fns 35) (lawF PG) true = true := by kernel_rfl
theorem lawJ_36 : runLaw (pcLaw 36) (lawL fns 36) (lawF PG) true = true := by kernel_rfl
theorem lawJ_37 : runLaw (pcLaw 37) (lawL fns 37) (lawF PG) true = true := by kernel_rfl
theorem lawJ_38 : runLaw (pcLaw 38) (lawL fns 38) (lawF PG) true = true := by kernel_rfl
theorem lawJ_39 : runLaw (pcLaw 39) (lawL fns 39) (lawF PG) true = true := by kernel_rfl
theorem lawJ_40 : runLaw (pcLaw 40) (lawL fns 40) (lawF PG) true = true := by kernel_rfl
end Go.Proofs.Ytaliacnncemneaa.wheels
end
