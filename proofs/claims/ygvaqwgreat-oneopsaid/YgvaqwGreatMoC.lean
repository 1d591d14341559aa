/- The full stack's 64 steps, run by the kernel. -/
import Derived.Test.YgvaqwGreatMoB
import Derived.Test.YgvaqwGreatProg
import Derived.KernelRfl
set_option maxRecDepth 100000
namespace Go.Proofs.YgvaqwGreat.Ev
open Go Go.Proofs
theorem pieceB : cleanR 99 (evs Hvaq.prog 99 (callM Hvaq.prog) (itemsB Hvaq.prog) EB mE) E2B mB = true := by kernel_rfl
end Go.Proofs.YgvaqwGreat.Ev
