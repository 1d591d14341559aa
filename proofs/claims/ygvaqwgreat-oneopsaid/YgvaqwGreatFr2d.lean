/- Rounds of the permutation, input 2, run by the kernel. -/
import Derived.Test.YgvaqwGreatFs2
import Derived.KernelRfl
set_option maxRecDepth 100000
namespace Go.Proofs.YgvaqwGreat.Ev
open Go Go.Proofs
theorem rF2_18 : cleanR 59 ((codeF Hvaq.prog 59 (shC (restF Hvaq.prog))).fn (callS Hvaq.prog) (EsF 18) (mF2 18) stopN) (EsF 19) (mF2 19) = true := by kernel_rfl
theorem rF2_19 : cleanR 59 ((codeF Hvaq.prog 59 (shC (restF Hvaq.prog))).fn (callS Hvaq.prog) (EsF 19) (mF2 19) stopN) (EsF 20) (mF2 20) = true := by kernel_rfl
theorem rF2_20 : cleanR 59 ((codeF Hvaq.prog 59 (shC (restF Hvaq.prog))).fn (callS Hvaq.prog) (EsF 20) (mF2 20) stopN) (EsF 21) (mF2 21) = true := by kernel_rfl
theorem rF2_21 : cleanR 59 ((codeF Hvaq.prog 59 (shC (restF Hvaq.prog))).fn (callS Hvaq.prog) (EsF 21) (mF2 21) stopN) (EsF 22) (mF2 22) = true := by kernel_rfl
theorem rF2_22 : cleanR 59 ((codeF Hvaq.prog 59 (shC (restF Hvaq.prog))).fn (callS Hvaq.prog) (EsF 22) (mF2 22) stopN) (EsF 23) (mF2 23) = true := by kernel_rfl
theorem rF2_23 : cleanR 59 ((codeF Hvaq.prog 59 (shC (restF Hvaq.prog))).fn (callS Hvaq.prog) (EsF 23) (mF2 23) stopN) (EsF 24) (mF2 24) = true := by kernel_rfl
theorem rF2_out : cleanR 59 ((codeF Hvaq.prog 59 (shC (restF Hvaq.prog))).fn (callS Hvaq.prog) (EsF 24) (mF2 24) (stopX 2)) E1F (mF2 24) = true := by kernel_rfl
theorem rF2_post : cleanR 59 ((codeF Hvaq.prog 59 (seq2 (restF Hvaq.prog))).fn (callS Hvaq.prog) E1F (mF2 24) stopN) 0 ⟨[blkF0 1600 186 outF2], 266, [], 0, 0, []⟩ = true := by kernel_rfl
end Go.Proofs.YgvaqwGreat.Ev
