/- The bytes' own pieces, run by the kernel. -/
import Derived.Test.YgvaqwGreatMoB
import Derived.Test.YgvaqwGreatProg
import Derived.KernelRfl
set_option maxRecDepth 100000
namespace Go.Proofs.YgvaqwGreat.Ev
open Go Go.Proofs
def chO0 : List (Nat × Nat × Nat) := [(0, 0, 0), (1, 2, 1), (2, 2, 1), (3, 2, 1), (4, 2, 1)]
theorem okO0 : lAll Hvaq.prog chO0 = true := by kernel_rfl
def chO1 : List (Nat × Nat × Nat) := [(5, 2, 1), (6, 2, 1), (7, 2, 1), (8, 3, 1), (9, 3, 1)]
theorem okO1 : lAll Hvaq.prog chO1 = true := by kernel_rfl
def chO2 : List (Nat × Nat × Nat) := [(10, 2, 1), (11, 2, 1), (12, 0, 0), (13, 0, 0), (14, 0, 0), (15, 0, 0)]
theorem okO2 : lAll Hvaq.prog chO2 = true := by kernel_rfl
def chO3 : List (Nat × Nat × Nat) := [(16, 2, 1), (17, 2, 1), (18, 2, 1), (19, 2, 1), (20, 2, 1)]
theorem okO3 : lAll Hvaq.prog chO3 = true := by kernel_rfl
def chO4 : List (Nat × Nat × Nat) := [(21, 1, 1), (22, 2, 1), (23, 2, 1), (24, 2, 1), (25, 1, 1)]
theorem okO4 : lAll Hvaq.prog chO4 = true := by kernel_rfl
end Go.Proofs.YgvaqwGreat.Ev
