/- Rounds of the permutation, input 2, run by the kernel. -/
import Derived.Test.YgvaqwGreatFs2
import Derived.KernelRfl
set_option maxRecDepth 100000
namespace Go.Proofs.YgvaqwGreat.Ev
open Go Go.Proofs
theorem rF2_pre : cleanR 59 (evs Hvaq.prog 59 (callS Hvaq.prog) (spine 3 (bodyOf Hvaq.prog 115)).1 (Nat.shiftLeft 10 320) (memF0 1600 186 inF2)) E1F (mF2 0) = true := by kernel_rfl
theorem rF2_in : cleanR 59 ((codeF Hvaq.prog 59 (shR (restF Hvaq.prog))).fn (callS Hvaq.prog) E1F (mF2 0) stopN) (EsF 0) (mF2 0) = true := by kernel_rfl
theorem rF2_0 : cleanR 59 ((codeF Hvaq.prog 59 (shC (restF Hvaq.prog))).fn (callS Hvaq.prog) (EsF 0) (mF2 0) stopN) (EsF 1) (mF2 1) = true := by kernel_rfl
theorem rF2_1 : cleanR 59 ((codeF Hvaq.prog 59 (shC (restF Hvaq.prog))).fn (callS Hvaq.prog) (EsF 1) (mF2 1) stopN) (EsF 2) (mF2 2) = true := by kernel_rfl
theorem rF2_2 : cleanR 59 ((codeF Hvaq.prog 59 (shC (restF Hvaq.prog))).fn (callS Hvaq.prog) (EsF 2) (mF2 2) stopN) (EsF 3) (mF2 3) = true := by kernel_rfl
theorem rF2_3 : cleanR 59 ((codeF Hvaq.prog 59 (shC (restF Hvaq.prog))).fn (callS Hvaq.prog) (EsF 3) (mF2 3) stopN) (EsF 4) (mF2 4) = true := by kernel_rfl
theorem rF2_4 : cleanR 59 ((codeF Hvaq.prog 59 (shC (restF Hvaq.prog))).fn (callS Hvaq.prog) (EsF 4) (mF2 4) stopN) (EsF 5) (mF2 5) = true := by kernel_rfl
theorem rF2_5 : cleanR 59 ((codeF Hvaq.prog 59 (shC (restF Hvaq.prog))).fn (callS Hvaq.prog) (EsF 5) (mF2 5) stopN) (EsF 6) (mF2 6) = true := by kernel_rfl
end Go.Proofs.YgvaqwGreat.Ev
