/- Rounds of the permutation, input 2, run by the kernel. -/
import Derived.Test.YgvaqwGreatFs2
import Derived.KernelRfl
set_option maxRecDepth 100000
namespace Go.Proofs.YgvaqwGreat.Ev
open Go Go.Proofs
theorem rF2_6 : cleanR 59 ((codeF Hvaq.prog 59 (shC (restF Hvaq.prog))).fn (callS Hvaq.prog) (EsF 6) (mF2 6) stopN) (EsF 7) (mF2 7) = true := by kernel_rfl
theorem rF2_7 : cleanR 59 ((codeF Hvaq.prog 59 (shC (restF Hvaq.prog))).fn (callS Hvaq.prog) (EsF 7) (mF2 7) stopN) (EsF 8) (mF2 8) = true := by kernel_rfl
theorem rF2_8 : cleanR 59 ((codeF Hvaq.prog 59 (shC (restF Hvaq.prog))).fn (callS Hvaq.prog) (EsF 8) (mF2 8) stopN) (EsF 9) (mF2 9) = true := by kernel_rfl
theorem rF2_9 : cleanR 59 ((codeF Hvaq.prog 59 (shC (restF Hvaq.prog))).fn (callS Hvaq.prog) (EsF 9) (mF2 9) stopN) (EsF 10) (mF2 10) = true := by kernel_rfl
theorem rF2_10 : cleanR 59 ((codeF Hvaq.prog 59 (shC (restF Hvaq.prog))).fn (callS Hvaq.prog) (EsF 10) (mF2 10) stopN) (EsF 11) (mF2 11) = true := by kernel_rfl
theorem rF2_11 : cleanR 59 ((codeF Hvaq.prog 59 (shC (restF Hvaq.prog))).fn (callS Hvaq.prog) (EsF 11) (mF2 11) stopN) (EsF 12) (mF2 12) = true := by kernel_rfl
end Go.Proofs.YgvaqwGreat.Ev
