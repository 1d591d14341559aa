/- Rounds of the permutation, input 2, run by the kernel. -/
import Derived.Test.YgvaqwGreatFs2
import Derived.KernelRfl
set_option maxRecDepth 100000
namespace Go.Proofs.YgvaqwGreat.Ev
open Go Go.Proofs
theorem rF2_12 : cleanR 59 ((codeF Hvaq.prog 59 (shC (restF Hvaq.prog))).fn (callS Hvaq.prog) (EsF 12) (mF2 12) stopN) (EsF 13) (mF2 13) = true := by kernel_rfl
theorem rF2_13 : cleanR 59 ((codeF Hvaq.prog 59 (shC (restF Hvaq.prog))).fn (callS Hvaq.prog) (EsF 13) (mF2 13) stopN) (EsF 14) (mF2 14) = true := by kernel_rfl
theorem rF2_14 : cleanR 59 ((codeF Hvaq.prog 59 (shC (restF Hvaq.prog))).fn (callS Hvaq.prog) (EsF 14) (mF2 14) stopN) (EsF 15) (mF2 15) = true := by kernel_rfl
theorem rF2_15 : cleanR 59 ((codeF Hvaq.prog 59 (shC (restF Hvaq.prog))).fn (callS Hvaq.prog) (EsF 15) (mF2 15) stopN) (EsF 16) (mF2 16) = true := by kernel_rfl
theorem rF2_16 : cleanR 59 ((codeF Hvaq.prog 59 (shC (restF Hvaq.prog))).fn (callS Hvaq.prog) (EsF 16) (mF2 16) stopN) (EsF 17) (mF2 17) = true := by kernel_rfl
theorem rF2_17 : cleanR 59 ((codeF Hvaq.prog 59 (shC (restF Hvaq.prog))).fn (callS Hvaq.prog) (EsF 17) (mF2 17) stopN) (EsF 18) (mF2 18) = true := by kernel_rfl
end Go.Proofs.YgvaqwGreat.Ev
