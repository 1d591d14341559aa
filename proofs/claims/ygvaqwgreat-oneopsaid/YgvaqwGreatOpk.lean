/- The bytes' own pieces, run by the kernel. -/
import Derived.Test.YgvaqwGreatMoB
import Derived.Test.YgvaqwGreatProg
import Derived.KernelRfl
set_option maxRecDepth 100000
namespace Go.Proofs.YgvaqwGreat.Ev
open Go Go.Proofs
def chO50 : List (Nat × Nat × Nat) := [(244, 6, 1), (246, 0, 0), (247, 0, 0), (248, 0, 0)]
theorem okO50 : lAll Hvaq.prog chO50 = true := by kernel_rfl
def chO51 : List (Nat × Nat × Nat) := [(249, 0, 0), (250, 6, 1), (251, 0, 0), (252, 0, 0)]
theorem okO51 : lAll Hvaq.prog chO51 = true := by kernel_rfl
def chO52 : List (Nat × Nat × Nat) := [(253, 2, 0), (254, 0, 0), (255, 1, 0)]
theorem okO52 : lAll Hvaq.prog chO52 = true := by kernel_rfl
end Go.Proofs.YgvaqwGreat.Ev
