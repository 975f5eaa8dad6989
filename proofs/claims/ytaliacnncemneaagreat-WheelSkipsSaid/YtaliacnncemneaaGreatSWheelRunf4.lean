/- Runs of Skip. Conditions: those that each theorem names. -/
import Derived.Test.YtaliacnncemneaaGreatSWheelAct
open Go
noncomputable section
namespace Go.Proofs.YtaliacnncemneaaGreat.wheels
open Go.Abs Go.Proofs.Wheels
set_option maxRecDepth 1000000
theorem run_Sf4 : (List.range 10).all (fun j => runS false (51 + j)) = true := by kernel_rfl
end Go.Proofs.YtaliacnncemneaaGreat.wheels
end
