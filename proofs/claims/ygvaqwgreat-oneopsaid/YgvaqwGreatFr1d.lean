/- Rounds of the permutation, input 1, run by the kernel. -/
import Derived.Test.YgvaqwGreatFs1
import Derived.KernelRfl
set_option maxRecDepth 100000
namespace Go.Proofs.YgvaqwGreat.Ev
open Go Go.Proofs
theorem rF1_18 : cleanR 59 ((codeF Hvaq.prog 59 (shC (restF Hvaq.prog))).fn (callS Hvaq.prog) (EsF 18) (mF1 18) stopN) (EsF 19) (mF1 19) = true := by kernel_rfl
theorem rF1_19 : cleanR 59 ((codeF Hvaq.prog 59 (shC (restF Hvaq.prog))).fn (callS Hvaq.prog) (EsF 19) (mF1 19) stopN) (EsF 20) (mF1 20) = true := by kernel_rfl
theorem rF1_20 : cleanR 59 ((codeF Hvaq.prog 59 (shC (restF Hvaq.prog))).fn (callS Hvaq.prog) (EsF 20) (mF1 20) stopN) (EsF 21) (mF1 21) = true := by kernel_rfl
theorem rF1_21 : cleanR 59 ((codeF Hvaq.prog 59 (shC (restF Hvaq.prog))).fn (callS Hvaq.prog) (EsF 21) (mF1 21) stopN) (EsF 22) (mF1 22) = true := by kernel_rfl
theorem rF1_22 : cleanR 59 ((codeF Hvaq.prog 59 (shC (restF Hvaq.prog))).fn (callS Hvaq.prog) (EsF 22) (mF1 22) stopN) (EsF 23) (mF1 23) = true := by kernel_rfl
theorem rF1_23 : cleanR 59 ((codeF Hvaq.prog 59 (shC (restF Hvaq.prog))).fn (callS Hvaq.prog) (EsF 23) (mF1 23) stopN) (EsF 24) (mF1 24) = true := by kernel_rfl
theorem rF1_out : cleanR 59 ((codeF Hvaq.prog 59 (shC (restF Hvaq.prog))).fn (callS Hvaq.prog) (EsF 24) (mF1 24) (stopX 2)) E1F (mF1 24) = true := by kernel_rfl
theorem rF1_post : cleanR 59 ((codeF Hvaq.prog 59 (seq2 (restF Hvaq.prog))).fn (callS Hvaq.prog) E1F (mF1 24) stopN) 0 ⟨[blkF0 1600 186 outF1], 266, [], 0, 0, []⟩ = true := by kernel_rfl
end Go.Proofs.YgvaqwGreat.Ev
