/- The bytes' own pieces, run by the kernel. -/
import Derived.Test.YgvaqwGreatMoB
import Derived.Test.YgvaqwGreatProg
import Derived.KernelRfl
set_option maxRecDepth 100000
namespace Go.Proofs.YgvaqwGreat.Ev
open Go Go.Proofs
def chO5 : List (Nat × Nat × Nat) := [(26, 2, 1), (27, 2, 1), (28, 2, 1), (29, 2, 1), (30, 0, 0), (31, 0, 0)]
theorem okO5 : lAll Hvaq.prog chO5 = true := by kernel_rfl
def chO6 : List (Nat × Nat × Nat) := [(33, 0, 0), (34, 0, 0), (35, 0, 0), (36, 0, 0), (37, 0, 0), (38, 0, 0), (39, 0, 0)]
theorem okO6 : lAll Hvaq.prog chO6 = true := by kernel_rfl
def chO7 : List (Nat × Nat × Nat) := [(40, 0, 0), (41, 0, 0), (42, 0, 0), (43, 0, 0), (44, 0, 0), (45, 0, 0), (46, 0, 0)]
theorem okO7 : lAll Hvaq.prog chO7 = true := by kernel_rfl
def chO8 : List (Nat × Nat × Nat) := [(47, 0, 0), (48, 0, 1), (49, 1, 1), (50, 0, 1), (51, 0, 1), (52, 0, 1), (53, 1, 1)]
theorem okO8 : lAll Hvaq.prog chO8 = true := by kernel_rfl
def chO9 : List (Nat × Nat × Nat) := [(54, 0, 1), (55, 3, 0), (56, 0, 1), (57, 3, 0), (58, 0, 1), (59, 1, 1)]
theorem okO9 : lAll Hvaq.prog chO9 = true := by kernel_rfl
end Go.Proofs.YgvaqwGreat.Ev
