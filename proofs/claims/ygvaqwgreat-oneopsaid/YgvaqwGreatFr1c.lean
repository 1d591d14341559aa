/- Rounds of the permutation, input 1, run by the kernel. -/
import Derived.Test.YgvaqwGreatFs1
import Derived.KernelRfl
set_option maxRecDepth 100000
namespace Go.Proofs.YgvaqwGreat.Ev
open Go Go.Proofs
theorem rF1_12 : cleanR 59 ((codeF Hvaq.prog 59 (shC (restF Hvaq.prog))).fn (callS Hvaq.prog) (EsF 12) (mF1 12) stopN) (EsF 13) (mF1 13) = true := by kernel_rfl
theorem rF1_13 : cleanR 59 ((codeF Hvaq.prog 59 (shC (restF Hvaq.prog))).fn (callS Hvaq.prog) (EsF 13) (mF1 13) stopN) (EsF 14) (mF1 14) = true := by kernel_rfl
theorem rF1_14 : cleanR 59 ((codeF Hvaq.prog 59 (shC (restF Hvaq.prog))).fn (callS Hvaq.prog) (EsF 14) (mF1 14) stopN) (EsF 15) (mF1 15) = true := by kernel_rfl
theorem rF1_15 : cleanR 59 ((codeF Hvaq.prog 59 (shC (restF Hvaq.prog))).fn (callS Hvaq.prog) (EsF 15) (mF1 15) stopN) (EsF 16) (mF1 16) = true := by kernel_rfl
theorem rF1_16 : cleanR 59 ((codeF Hvaq.prog 59 (shC (restF Hvaq.prog))).fn (callS Hvaq.prog) (EsF 16) (mF1 16) stopN) (EsF 17) (mF1 17) = true := by kernel_rfl
theorem rF1_17 : cleanR 59 ((codeF Hvaq.prog 59 (shC (restF Hvaq.prog))).fn (callS Hvaq.prog) (EsF 17) (mF1 17) stopN) (EsF 18) (mF1 18) = true := by kernel_rfl
end Go.Proofs.YgvaqwGreat.Ev
