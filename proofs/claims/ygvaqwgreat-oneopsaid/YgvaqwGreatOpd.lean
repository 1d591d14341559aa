/- The bytes' own pieces, run by the kernel. -/
import Derived.Test.YgvaqwGreatMoB
import Derived.Test.YgvaqwGreatProg
import Derived.KernelRfl
set_option maxRecDepth 100000
namespace Go.Proofs.YgvaqwGreat.Ev
open Go Go.Proofs
def chO15 : List (Nat × Nat × Nat) := [(91, 0, 0), (92, 1, 1), (93, 2, 0), (94, 3, 0), (95, 0, 1), (96, 0, 1)]
theorem okO15 : lAll Hvaq.prog chO15 = true := by kernel_rfl
def chO16 : List (Nat × Nat × Nat) := [(97, 0, 1), (98, 0, 1), (99, 0, 1), (100, 0, 1), (101, 0, 1), (102, 0, 1), (103, 0, 1)]
theorem okO16 : lAll Hvaq.prog chO16 = true := by kernel_rfl
def chO17 : List (Nat × Nat × Nat) := [(104, 0, 1), (105, 0, 1), (106, 0, 1), (107, 0, 1), (108, 0, 1), (109, 0, 1), (110, 0, 1)]
theorem okO17 : lAll Hvaq.prog chO17 = true := by kernel_rfl
def chO18 : List (Nat × Nat × Nat) := [(111, 0, 1), (112, 0, 1), (113, 0, 1), (114, 0, 1), (115, 0, 1), (116, 0, 1), (117, 0, 1)]
theorem okO18 : lAll Hvaq.prog chO18 = true := by kernel_rfl
def chO19 : List (Nat × Nat × Nat) := [(118, 0, 1), (119, 0, 1), (120, 0, 1), (121, 0, 1), (122, 0, 1), (123, 0, 1), (124, 0, 1)]
theorem okO19 : lAll Hvaq.prog chO19 = true := by kernel_rfl
end Go.Proofs.YgvaqwGreat.Ev
