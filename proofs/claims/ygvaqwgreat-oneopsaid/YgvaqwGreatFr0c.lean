/- Rounds of the permutation, input 0, run by the kernel. -/
import Derived.Test.YgvaqwGreatFs0
import Derived.KernelRfl
set_option maxRecDepth 100000
namespace Go.Proofs.YgvaqwGreat.Ev
open Go Go.Proofs
theorem rF0_12 : cleanR 59 ((codeF Hvaq.prog 59 (shC (restF Hvaq.prog))).fn (callS Hvaq.prog) (EsF 12) (mF0 12) stopN) (EsF 13) (mF0 13) = true := by kernel_rfl
theorem rF0_13 : cleanR 59 ((codeF Hvaq.prog 59 (shC (restF Hvaq.prog))).fn (callS Hvaq.prog) (EsF 13) (mF0 13) stopN) (EsF 14) (mF0 14) = true := by kernel_rfl
theorem rF0_14 : cleanR 59 ((codeF Hvaq.prog 59 (shC (restF Hvaq.prog))).fn (callS Hvaq.prog) (EsF 14) (mF0 14) stopN) (EsF 15) (mF0 15) = true := by kernel_rfl
theorem rF0_15 : cleanR 59 ((codeF Hvaq.prog 59 (shC (restF Hvaq.prog))).fn (callS Hvaq.prog) (EsF 15) (mF0 15) stopN) (EsF 16) (mF0 16) = true := by kernel_rfl
theorem rF0_16 : cleanR 59 ((codeF Hvaq.prog 59 (shC (restF Hvaq.prog))).fn (callS Hvaq.prog) (EsF 16) (mF0 16) stopN) (EsF 17) (mF0 17) = true := by kernel_rfl
theorem rF0_17 : cleanR 59 ((codeF Hvaq.prog 59 (shC (restF Hvaq.prog))).fn (callS Hvaq.prog) (EsF 17) (mF0 17) stopN) (EsF 18) (mF0 18) = true := by kernel_rfl
end Go.Proofs.YgvaqwGreat.Ev
