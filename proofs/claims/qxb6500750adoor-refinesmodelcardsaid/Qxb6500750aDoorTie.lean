/-
  DERIVED. GIVEN WITH THE SEED: THE PROGRAM's TIES (one call each: nine closed facts by the kernel) AND EACH ROW's TIE, after the 31st guide's Derived/Test/Toyas{Tie, Card}.lean. No idea stands in it: it is a product of the set-up. Laid BY PROGRAM, IN A SANDBOX (cutbox-door.mjs). By AI agents, Wed Nov 11 2026. No macro, syntax, notation, axiom, sorry.
-/
import Derived.Test.Qxb6500750aDoorRows
import Derived.LaidByTextLater
import Derived.SevenTiedAt
import Derived.LaidSub
import Derived.LaidOnce
namespace Go.Proofs.Qxb6500750aDoor
open Go
set_option maxRecDepth 100000
theorem seatTie1 : Tryd.prog.laidByTextLater [("e2e/api.Map", Rows.laid_e2e_api_Map), ("math/bits.deBruijn32tab", Rows.laid_math_bits_deBruijn32tab), ("math/bits.deBruijn64tab", Rows.laid_math_bits_deBruijn64tab), ("e2e/xbar.windows", Rows.laid_e2e_xbar_windows)] [.data, .data, .data, .called] true :=
  Program.laidByTextLater_by_one 1152 8 65 (by kernel_rfl) (by kernel_rfl) (by kernel_rfl) (by kernel_rfl) (by kernel_rfl) (by kernel_rfl) (fun _ _ => by kernel_rfl)
theorem noOwnUnsafe : Tryd.pinned.checked.prog.headLifts.contains "ownunsafe" = false := by kernel_rfl
theorem tie : Tryd.prog.laidByTextLater [("e2e/api.Map", Rows.laid_e2e_api_Map), ("math/bits.deBruijn32tab", Rows.laid_math_bits_deBruijn32tab), ("math/bits.deBruijn64tab", Rows.laid_math_bits_deBruijn64tab), ("e2e/xbar.windows", Rows.laid_e2e_xbar_windows)] [.data, .data, .data, .called] true :=
  Program.laidByTextLater.sub seatTie1 ["e2e/api.Map", "math/bits.deBruijn32tab", "math/bits.deBruijn64tab", "e2e/xbar.windows"] (by kernel_rfl) (by kernel_rfl)
theorem refinesModel_row_tie : Rows.refinesModelRow.laidByTextAt .later Tryd.pinned [.data, .data, .data, .called] true :=
  OpenClaim.laidByTextAt_later rfl rfl tie noOwnUnsafe
theorem orderBoundsAndInterleaving_row_tie : Rows.orderBoundsAndInterleavingRow.laidByTextAt .later Tryd.pinned [.data, .data, .data, .called] true :=
  OpenClaim.laidByTextAt_later rfl rfl tie noOwnUnsafe
theorem retriesAreBoundedAndNoWriteActsTwice_row_tie : Rows.retriesAreBoundedAndNoWriteActsTwiceRow.laidByTextAt .later Tryd.pinned [.data, .data, .data, .called] true :=
  OpenClaim.laidByTextAt_later rfl rfl tie noOwnUnsafe
theorem isolationHolds_row_tie : Rows.isolationHoldsRow.laidByTextAt .later Tryd.pinned [.data, .data, .data, .called] true :=
  OpenClaim.laidByTextAt_later rfl rfl tie noOwnUnsafe
theorem arbitrationIsPickedOrRoundRobin_row_tie : Rows.arbitrationIsPickedOrRoundRobinRow.laidByTextAt .later Tryd.pinned [.data, .data, .data, .called] true :=
  OpenClaim.laidByTextAt_later rfl rfl tie noOwnUnsafe
theorem everyAcceptedRequestIsAnsweredOnce_row_tie : Rows.everyAcceptedRequestIsAnsweredOnceRow.laidByTextAt .later Tryd.pinned [.data, .data, .data, .called] true :=
  OpenClaim.laidByTextAt_later rfl rfl tie noOwnUnsafe
theorem faultFreeRunsMatchSequentialMemory_row_tie : Rows.faultFreeRunsMatchSequentialMemoryRow.laidByTextAt .later Tryd.pinned [.data, .data, .data, .called] true :=
  OpenClaim.laidByTextAt_later rfl rfl tie noOwnUnsafe
theorem tie2 : Tryd.prog.laidByTextLater [("e2e/api.Map", Rows.laid_e2e_api_Map), ("e2e/xbar.windows", Rows.laid_e2e_xbar_windows)] [.data, .called] true :=
  Program.laidByTextLater.sub seatTie1 ["e2e/api.Map", "e2e/xbar.windows"] (by kernel_rfl) (by kernel_rfl)
theorem decodeAgreesWithIntervals_row_tie : Rows.decodeAgreesWithIntervalsRow.laidByTextAt .later Tryd.pinned [.data, .called] true :=
  OpenClaim.laidByTextAt_later rfl rfl tie2 noOwnUnsafe
end Go.Proofs.Qxb6500750aDoor
