/- The law's runs. Conditions: those that each theorem names. -/
import Derived.Test.YtaliacnncemneaaCancelShapes
open Go
noncomputable section

namespace Go.Proofs.Ytaliacnncemneaa.wheels
open Go.Abs Go.Proofs.Wheels
noncomputable def runCan (pc : List (SB × Bool)) (ls : List LoopSpec) (fs : List FunSpec) (has : Bool) : Bool := runAt 4 pc ls fs [cArg has PG, .sx .u8 (v 0)] (heapC has PG)
set_option maxRecDepth 1000000
theorem can_nil : runCan pcNo [] [] false = true := by kernel_rfl
theorem can_no : runCan pcNo [] [] true = true := by kernel_rfl
theorem can_big : runCan pcBig [] [] true = true := by kernel_rfl
theorem canJ_0 : runCan (pcCan 0) (canL fns 0) (canF fns) true = true := by kernel_rfl
theorem canJ_1 : runCan (pcCan 1) (canL fns 1) (canF fns) true = true := by kernel_rfl
theorem canJ_2 : runCan (pcCan 2) (canL fns 2) (canF fns) true = true := by kernel_rfl
theorem canJ_3 : runCan (pcCan 3) (canL fns 3) (canF fns) true = true := by kernel_rfl
theorem canJ_4 : runCan (pcCan 4) (canL fns 4) (canF fns) true = true := by kernel_rfl
theorem canJ_5 : runCan (pcCan 5) (canL fns 5) (canF fns) true = true := by kernel_rfl
theorem canJ_6 : runCan (pcCan 6) (canL fns 6) (canF fns) true = true := by kernel_rfl
theorem canJ_7 : runCan (pcCan 7) (canL fns 7) (canF fns) true = true := by kernel_rfl
theorem canJ_8 : runCan (pcCan 8) (canL fns 8) (canF fns) true = true := by kernel_rfl
theorem canJ_9 : runCan (pcCan 9) (canL fns 9) (canF fns) true = true := by kernel_rfl
theorem canJ_10 : runCan (pcCan 10) (canL fns 10) (canF fns) true = true := by kernel_rfl
end Go.Proofs.Ytaliacnncemneaa.wheels
end
