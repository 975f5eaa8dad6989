/-
  DERIVED. GIVEN WITH THE SEED: THE PROGRAM's TIES (one call each: nine closed facts by the kernel) AND EACH ROW's TIE, after the 31st guide's Derived/Test/Toyas{Tie, Card}.lean. No idea stands in it: it is a product of the set-up. Laid BY PROGRAM, IN A SANDBOX (cutbox-door.mjs). By AI agents, Wed Nov 11 2026. No macro, syntax, notation, axiom, sorry.
-/
import Derived.Test.YthmikgalfkmpfaaGreatDoorRows
import Derived.LaidByTextLater
import Derived.SevenTiedAt
import Derived.LaidSub
import Derived.LaidOnce
namespace Go.Proofs.YthmikgalfkmpfaaGreatDoor
open Go
set_option maxRecDepth 100000
theorem seatTie1 : Tryz.prog.laidByTextLater [("math/bits.deBruijn64tab", Rows.laid_math_bits_deBruijn64tab), ("wherry/isa.forms", Rows.laid_wherry_isa_forms), ("wherry/life.from", Rows.laid_wherry_life_from), ("wherry/thread.toRun", Rows.laid_wherry_thread_toRun), ("wherry/thread.toYield", Rows.laid_wherry_thread_toYield), ("wherry/thread.toWait", Rows.laid_wherry_thread_toWait), ("wherry/thread.toTrap", Rows.laid_wherry_thread_toTrap), ("wherry/thread.toWake", Rows.laid_wherry_thread_toWake), ("wherry/thread.toBack", Rows.laid_wherry_thread_toBack)] [.data, .widerDeep, .data, .data, .data, .data, .data, .data, .data] true :=
  Program.laidByTextLater_by_one 81 8 65 (by kernel_rfl) (by kernel_rfl) (by kernel_rfl) (by kernel_rfl) (by kernel_rfl) (by kernel_rfl) (fun _ _ => by kernel_rfl)
theorem noOwnUnsafe : Tryz.pinned.checked.prog.headLifts.contains "ownunsafe" = false := by kernel_rfl
theorem tie : Tryz.prog.laidByTextLater [("math/bits.deBruijn64tab", Rows.laid_math_bits_deBruijn64tab), ("wherry/isa.forms", Rows.laid_wherry_isa_forms), ("wherry/life.from", Rows.laid_wherry_life_from), ("wherry/thread.toRun", Rows.laid_wherry_thread_toRun), ("wherry/thread.toYield", Rows.laid_wherry_thread_toYield), ("wherry/thread.toWait", Rows.laid_wherry_thread_toWait), ("wherry/thread.toTrap", Rows.laid_wherry_thread_toTrap), ("wherry/thread.toWake", Rows.laid_wherry_thread_toWake), ("wherry/thread.toBack", Rows.laid_wherry_thread_toBack)] [.data, .widerDeep, .data, .data, .data, .data, .data, .data, .data] true :=
  Program.laidByTextLater.sub seatTie1 ["math/bits.deBruijn64tab", "wherry/isa.forms", "wherry/life.from", "wherry/thread.toRun", "wherry/thread.toYield", "wherry/thread.toWait", "wherry/thread.toTrap", "wherry/thread.toWake", "wherry/thread.toBack"] (by kernel_rfl) (by kernel_rfl)
theorem scriptNone_row_tie : Rows.scriptNoneRow.laidByTextAt .later Tryz.pinned [.data, .widerDeep, .data, .data, .data, .data, .data, .data, .data] true :=
  OpenClaim.laidByTextAt_later rfl rfl tie noOwnUnsafe
theorem scriptNoneUpto_row_tie : Rows.scriptNoneUptoRow.laidByTextAt .later Tryz.pinned [.data, .widerDeep, .data, .data, .data, .data, .data, .data, .data] true :=
  OpenClaim.laidByTextAt_later rfl rfl tie noOwnUnsafe
end Go.Proofs.YthmikgalfkmpfaaGreatDoor
