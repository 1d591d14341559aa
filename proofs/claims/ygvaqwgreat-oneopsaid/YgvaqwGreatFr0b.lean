/- Rounds of the permutation, input 0, run by the kernel. -/
import Derived.Test.YgvaqwGreatFs0
import Derived.KernelRfl
set_option maxRecDepth 100000
namespace Go.Proofs.YgvaqwGreat.Ev
open Go Go.Proofs
theorem rF0_6 : cleanR 59 ((codeF Hvaq.prog 59 (shC (restF Hvaq.prog))).fn (callS Hvaq.prog) (EsF 6) (mF0 6) stopN) (EsF 7) (mF0 7) = true := by kernel_rfl
theorem rF0_7 : cleanR 59 ((codeF Hvaq.prog 59 (shC (restF Hvaq.prog))).fn (callS Hvaq.prog) (EsF 7) (mF0 7) stopN) (EsF 8) (mF0 8) = true := by kernel_rfl
theorem rF0_8 : cleanR 59 ((codeF Hvaq.prog 59 (shC (restF Hvaq.prog))).fn (callS Hvaq.prog) (EsF 8) (mF0 8) stopN) (EsF 9) (mF0 9) = true := by kernel_rfl
theorem rF0_9 : cleanR 59 ((codeF Hvaq.prog 59 (shC (restF Hvaq.prog))).fn (callS Hvaq.prog) (EsF 9) (mF0 9) stopN) (EsF 10) (mF0 10) = true := by kernel_rfl
theorem rF0_10 : cleanR 59 ((codeF Hvaq.prog 59 (shC (restF Hvaq.prog))).fn (callS Hvaq.prog) (EsF 10) (mF0 10) stopN) (EsF 11) (mF0 11) = true := by kernel_rfl
theorem rF0_11 : cleanR 59 ((codeF Hvaq.prog 59 (shC (restF Hvaq.prog))).fn (callS Hvaq.prog) (EsF 11) (mF0 11) stopN) (EsF 12) (mF0 12) = true := by kernel_rfl
end Go.Proofs.YgvaqwGreat.Ev
