/- Rounds of the permutation, input 0, run by the kernel. -/
import Derived.Test.YgvaqwGreatFs0
import Derived.KernelRfl
set_option maxRecDepth 100000
namespace Go.Proofs.YgvaqwGreat.Ev
open Go Go.Proofs
theorem rF0_pre : cleanR 59 (evs Hvaq.prog 59 (callS Hvaq.prog) (spine 3 (bodyOf Hvaq.prog 115)).1 (Nat.shiftLeft 10 320) (memF0 1600 186 inF0)) E1F (mF0 0) = true := by kernel_rfl
theorem rF0_in : cleanR 59 ((codeF Hvaq.prog 59 (shR (restF Hvaq.prog))).fn (callS Hvaq.prog) E1F (mF0 0) stopN) (EsF 0) (mF0 0) = true := by kernel_rfl
theorem rF0_0 : cleanR 59 ((codeF Hvaq.prog 59 (shC (restF Hvaq.prog))).fn (callS Hvaq.prog) (EsF 0) (mF0 0) stopN) (EsF 1) (mF0 1) = true := by kernel_rfl
theorem rF0_1 : cleanR 59 ((codeF Hvaq.prog 59 (shC (restF Hvaq.prog))).fn (callS Hvaq.prog) (EsF 1) (mF0 1) stopN) (EsF 2) (mF0 2) = true := by kernel_rfl
theorem rF0_2 : cleanR 59 ((codeF Hvaq.prog 59 (shC (restF Hvaq.prog))).fn (callS Hvaq.prog) (EsF 2) (mF0 2) stopN) (EsF 3) (mF0 3) = true := by kernel_rfl
theorem rF0_3 : cleanR 59 ((codeF Hvaq.prog 59 (shC (restF Hvaq.prog))).fn (callS Hvaq.prog) (EsF 3) (mF0 3) stopN) (EsF 4) (mF0 4) = true := by kernel_rfl
theorem rF0_4 : cleanR 59 ((codeF Hvaq.prog 59 (shC (restF Hvaq.prog))).fn (callS Hvaq.prog) (EsF 4) (mF0 4) stopN) (EsF 5) (mF0 5) = true := by kernel_rfl
theorem rF0_5 : cleanR 59 ((codeF Hvaq.prog 59 (shC (restF Hvaq.prog))).fn (callS Hvaq.prog) (EsF 5) (mF0 5) stopN) (EsF 6) (mF0 6) = true := by kernel_rfl
end Go.Proofs.YgvaqwGreat.Ev
