/- The bytes' own pieces, run by the kernel. -/
import Derived.Test.YgvaqwGreatMoB
import Derived.Test.YgvaqwGreatProg
import Derived.KernelRfl
set_option maxRecDepth 100000
namespace Go.Proofs.YgvaqwGreat.Ev
open Go Go.Proofs
def chO10 : List (Nat × Nat × Nat) := [(60, 4, 0), (61, 0, 1), (62, 3, 0), (63, 1, 1), (64, 1, 1)]
theorem okO10 : lAll Hvaq.prog chO10 = true := by kernel_rfl
def chO11 : List (Nat × Nat × Nat) := [(65, 0, 1), (66, 0, 1), (67, 0, 1), (68, 0, 1), (69, 0, 1), (70, 0, 1), (71, 0, 1)]
theorem okO11 : lAll Hvaq.prog chO11 = true := by kernel_rfl
def chO12 : List (Nat × Nat × Nat) := [(72, 0, 1), (73, 0, 0), (74, 0, 0), (75, 0, 0), (76, 0, 0), (77, 0, 0), (78, 0, 0)]
theorem okO12 : lAll Hvaq.prog chO12 = true := by kernel_rfl
def chO13 : List (Nat × Nat × Nat) := [(79, 0, 0), (80, 1, 0), (81, 1, 1), (82, 2, 0), (83, 2, 0), (84, 1, 1)]
theorem okO13 : lAll Hvaq.prog chO13 = true := by kernel_rfl
def chO14 : List (Nat × Nat × Nat) := [(85, 2, 0), (86, 1, 0), (87, 2, 0), (88, 0, 1), (89, 0, 1), (90, 0, 1)]
theorem okO14 : lAll Hvaq.prog chO14 = true := by kernel_rfl
end Go.Proofs.YgvaqwGreat.Ev
