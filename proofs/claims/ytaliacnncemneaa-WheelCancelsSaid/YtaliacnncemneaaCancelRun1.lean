/- The law's runs. Conditions: those that each theorem names. -/
import Derived.Test.YtaliacnncemneaaCancelRun0
open Go
noncomputable section

namespace Go.Proofs.Ytaliacnncemneaa.wheels
open Go.Abs Go.Proofs.Wheels
set_option maxRecDepth 1000000
theorem canJ_11 : runCan (pcCan 11) (canL fns 11) (canF fns) true = true := by kernel_rfl
theorem canJ_12 : runCan (pcCan 12) (canL fns 12) (canF fns) true = true := by kernel_rfl
theorem canJ_13 : runCan (pcCan 13) (canL fns 13) (canF fns) true = true := by kernel_rfl
theorem canJ_14 : runCan (pcCan 14) (canL fns 14) (canF fns) true = true := by kernel_rfl
theorem canJ_15 : runCan (pcCan 15) (canL fns 15) (canF fns) true = true := by kernel_rfl
theorem canJ_16 : runCan (pcCan 16) (canL fns 16) (canF fns) true = true := by kernel_rfl
theorem canJ_17 : runCan (pcCan 17) (canL fns 17) (canF fns) true = true := by kernel_rfl
theorem canJ_18 : runCan (pcCan 18) (canL fns 18) (canF fns) true = true := by kernel_rfl
theorem canJ_19 : runCan (pcCan 19) (canL fns 19) (canF fns) true = true := by kernel_rfl
theorem canJ_20 : runCan (pcCan 20) (canL fns 20) (canF fns) true = true := by kernel_rfl
end Go.Proofs.Ytaliacnncemneaa.wheels
end
