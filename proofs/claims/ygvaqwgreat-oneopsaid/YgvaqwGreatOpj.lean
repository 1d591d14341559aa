/- The bytes' own pieces, run by the kernel. -/
import Derived.Test.YgvaqwGreatMoB
import Derived.Test.YgvaqwGreatProg
import Derived.KernelRfl
set_option maxRecDepth 100000
namespace Go.Proofs.YgvaqwGreat.Ev
open Go Go.Proofs
def chO45 : List (Nat × Nat × Nat) := [(222, 0, 0), (223, 0, 0), (224, 0, 0), (225, 0, 0), (226, 0, 0), (227, 0, 0), (228, 0, 0)]
theorem okO45 : lAll Hvaq.prog chO45 = true := by kernel_rfl
def chO46 : List (Nat × Nat × Nat) := [(229, 0, 0), (230, 0, 0), (231, 0, 0), (232, 0, 0), (233, 0, 0), (234, 0, 0), (235, 0, 0)]
theorem okO46 : lAll Hvaq.prog chO46 = true := by kernel_rfl
def chO47 : List (Nat × Nat × Nat) := [(236, 0, 0), (237, 0, 0), (238, 0, 0), (239, 0, 0)]
theorem okO47 : lAll Hvaq.prog chO47 = true := by kernel_rfl
def chO48 : List (Nat × Nat × Nat) := [(241, 7, 1)]
theorem okO48 : lAll Hvaq.prog chO48 = true := by kernel_rfl
def chO49 : List (Nat × Nat × Nat) := [(242, 7, 1), (243, 2, 0)]
theorem okO49 : lAll Hvaq.prog chO49 = true := by kernel_rfl
end Go.Proofs.YgvaqwGreat.Ev
