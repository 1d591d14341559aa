/- Rounds of the permutation, input 0, run by the kernel. -/
import Derived.Test.YgvaqwGreatFs0
import Derived.KernelRfl
set_option maxRecDepth 100000
namespace Go.Proofs.YgvaqwGreat.Ev
open Go Go.Proofs
theorem rF0_18 : cleanR 59 ((codeF Hvaq.prog 59 (shC (restF Hvaq.prog))).fn (callS Hvaq.prog) (EsF 18) (mF0 18) stopN) (EsF 19) (mF0 19) = true := by kernel_rfl
theorem rF0_19 : cleanR 59 ((codeF Hvaq.prog 59 (shC (restF Hvaq.prog))).fn (callS Hvaq.prog) (EsF 19) (mF0 19) stopN) (EsF 20) (mF0 20) = true := by kernel_rfl
theorem rF0_20 : cleanR 59 ((codeF Hvaq.prog 59 (shC (restF Hvaq.prog))).fn (callS Hvaq.prog) (EsF 20) (mF0 20) stopN) (EsF 21) (mF0 21) = true := by kernel_rfl
theorem rF0_21 : cleanR 59 ((codeF Hvaq.prog 59 (shC (restF Hvaq.prog))).fn (callS Hvaq.prog) (EsF 21) (mF0 21) stopN) (EsF 22) (mF0 22) = true := by kernel_rfl
theorem rF0_22 : cleanR 59 ((codeF Hvaq.prog 59 (shC (restF Hvaq.prog))).fn (callS Hvaq.prog) (EsF 22) (mF0 22) stopN) (EsF 23) (mF0 23) = true := by kernel_rfl
theorem rF0_23 : cleanR 59 ((codeF Hvaq.prog 59 (shC (restF Hvaq.prog))).fn (callS Hvaq.prog) (EsF 23) (mF0 23) stopN) (EsF 24) (mF0 24) = true := by kernel_rfl
theorem rF0_out : cleanR 59 ((codeF Hvaq.prog 59 (shC (restF Hvaq.prog))).fn (callS Hvaq.prog) (EsF 24) (mF0 24) (stopX 2)) E1F (mF0 24) = true := by kernel_rfl
theorem rF0_post : cleanR 59 ((codeF Hvaq.prog 59 (seq2 (restF Hvaq.prog))).fn (callS Hvaq.prog) E1F (mF0 24) stopN) 0 ⟨[blkF0 1600 186 outF0], 266, [], 0, 0, []⟩ = true := by kernel_rfl
end Go.Proofs.YgvaqwGreat.Ev
