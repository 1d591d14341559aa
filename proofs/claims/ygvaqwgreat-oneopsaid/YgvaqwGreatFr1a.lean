/- Rounds of the permutation, input 1, run by the kernel. -/
import Derived.Test.YgvaqwGreatFs1
import Derived.KernelRfl
set_option maxRecDepth 100000
namespace Go.Proofs.YgvaqwGreat.Ev
open Go Go.Proofs
theorem rF1_pre : cleanR 59 (evs Hvaq.prog 59 (callS Hvaq.prog) (spine 3 (bodyOf Hvaq.prog 115)).1 (Nat.shiftLeft 10 320) (memF0 1600 186 inF1)) E1F (mF1 0) = true := by kernel_rfl
theorem rF1_in : cleanR 59 ((codeF Hvaq.prog 59 (shR (restF Hvaq.prog))).fn (callS Hvaq.prog) E1F (mF1 0) stopN) (EsF 0) (mF1 0) = true := by kernel_rfl
theorem rF1_0 : cleanR 59 ((codeF Hvaq.prog 59 (shC (restF Hvaq.prog))).fn (callS Hvaq.prog) (EsF 0) (mF1 0) stopN) (EsF 1) (mF1 1) = true := by kernel_rfl
theorem rF1_1 : cleanR 59 ((codeF Hvaq.prog 59 (shC (restF Hvaq.prog))).fn (callS Hvaq.prog) (EsF 1) (mF1 1) stopN) (EsF 2) (mF1 2) = true := by kernel_rfl
theorem rF1_2 : cleanR 59 ((codeF Hvaq.prog 59 (shC (restF Hvaq.prog))).fn (callS Hvaq.prog) (EsF 2) (mF1 2) stopN) (EsF 3) (mF1 3) = true := by kernel_rfl
theorem rF1_3 : cleanR 59 ((codeF Hvaq.prog 59 (shC (restF Hvaq.prog))).fn (callS Hvaq.prog) (EsF 3) (mF1 3) stopN) (EsF 4) (mF1 4) = true := by kernel_rfl
theorem rF1_4 : cleanR 59 ((codeF Hvaq.prog 59 (shC (restF Hvaq.prog))).fn (callS Hvaq.prog) (EsF 4) (mF1 4) stopN) (EsF 5) (mF1 5) = true := by kernel_rfl
theorem rF1_5 : cleanR 59 ((codeF Hvaq.prog 59 (shC (restF Hvaq.prog))).fn (callS Hvaq.prog) (EsF 5) (mF1 5) stopN) (EsF 6) (mF1 6) = true := by kernel_rfl
end Go.Proofs.YgvaqwGreat.Ev
