/- Rounds of the permutation, input 1, run by the kernel. -/
import Derived.Test.YgvaqwGreatFs1
import Derived.KernelRfl
set_option maxRecDepth 100000
namespace Go.Proofs.YgvaqwGreat.Ev
open Go Go.Proofs
theorem rF1_6 : cleanR 59 ((codeF Hvaq.prog 59 (shC (restF Hvaq.prog))).fn (callS Hvaq.prog) (EsF 6) (mF1 6) stopN) (EsF 7) (mF1 7) = true := by kernel_rfl
theorem rF1_7 : cleanR 59 ((codeF Hvaq.prog 59 (shC (restF Hvaq.prog))).fn (callS Hvaq.prog) (EsF 7) (mF1 7) stopN) (EsF 8) (mF1 8) = true := by kernel_rfl
theorem rF1_8 : cleanR 59 ((codeF Hvaq.prog 59 (shC (restF Hvaq.prog))).fn (callS Hvaq.prog) (EsF 8) (mF1 8) stopN) (EsF 9) (mF1 9) = true := by kernel_rfl
theorem rF1_9 : cleanR 59 ((codeF Hvaq.prog 59 (shC (restF Hvaq.prog))).fn (callS Hvaq.prog) (EsF 9) (mF1 9) stopN) (EsF 10) (mF1 10) = true := by kernel_rfl
theorem rF1_10 : cleanR 59 ((codeF Hvaq.prog 59 (shC (restF Hvaq.prog))).fn (callS Hvaq.prog) (EsF 10) (mF1 10) stopN) (EsF 11) (mF1 11) = true := by kernel_rfl
theorem rF1_11 : cleanR 59 ((codeF Hvaq.prog 59 (shC (restF Hvaq.prog))).fn (callS Hvaq.prog) (EsF 11) (mF1 11) stopN) (EsF 12) (mF1 12) = true := by kernel_rfl
end Go.Proofs.YgvaqwGreat.Ev
