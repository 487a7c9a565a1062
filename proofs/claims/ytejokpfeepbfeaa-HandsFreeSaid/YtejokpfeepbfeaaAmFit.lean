/-
  The tables fit the program of the seat.
-/
import Derived.Test.YtejokpfeepbfeaaAmTab
namespace Go.Proofs.YtejokpfeepbfeaaAm
open Go.AM
theorem codes : allN (codeOkAt Try.prog cfg) 79 = true := by kernel_rfl
theorem names : allN (nameOkAt Try.prog) 79 = true := by kernel_rfl
theorem mixed : Try.prog.follows .mixedOrders = true := by kernel_rfl
theorem count : Try.prog.funcs.size = 79 := by kernel_rfl
theorem eqs : allT Try.prog cfg.eqTab = true := by kernel_rfl
theorem fits : cfg.Fits Try.prog := fits_of count codes names mixed fun t ts e => allT_at eqs t ts e
end Go.Proofs.YtejokpfeepbfeaaAm
