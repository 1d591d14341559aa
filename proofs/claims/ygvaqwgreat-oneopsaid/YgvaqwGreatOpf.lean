/- The bytes' own pieces, run by the kernel. -/
import Derived.Test.YgvaqwGreatMoB
import Derived.Test.YgvaqwGreatProg
import Derived.KernelRfl
set_option maxRecDepth 100000
namespace Go.Proofs.YgvaqwGreat.Ev
open Go Go.Proofs
def chO25 : List (Nat × Nat × Nat) := [(140, 13, 14), (141, 14, 15)]
theorem okO25 : lAll Hvaq.prog chO25 = true := by kernel_rfl
def chO26 : List (Nat × Nat × Nat) := [(142, 15, 16)]
theorem okO26 : lAll Hvaq.prog chO26 = true := by kernel_rfl
def chO27 : List (Nat × Nat × Nat) := [(143, 16, 17), (144, 2, 2), (145, 3, 3)]
theorem okO27 : lAll Hvaq.prog chO27 = true := by kernel_rfl
def chO28 : List (Nat × Nat × Nat) := [(146, 4, 4), (147, 5, 5), (148, 6, 6)]
theorem okO28 : lAll Hvaq.prog chO28 = true := by kernel_rfl
def chO29 : List (Nat × Nat × Nat) := [(149, 7, 7), (150, 8, 8)]
theorem okO29 : lAll Hvaq.prog chO29 = true := by kernel_rfl
end Go.Proofs.YgvaqwGreat.Ev
