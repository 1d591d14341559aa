/- The bytes' own pieces, run by the kernel. -/
import Derived.Test.YgvaqwGreatMoB
import Derived.Test.YgvaqwGreatProg
import Derived.KernelRfl
set_option maxRecDepth 100000
namespace Go.Proofs.YgvaqwGreat.Ev
open Go Go.Proofs
def chO30 : List (Nat × Nat × Nat) := [(151, 9, 9), (152, 10, 10)]
theorem okO30 : lAll Hvaq.prog chO30 = true := by kernel_rfl
def chO31 : List (Nat × Nat × Nat) := [(153, 11, 11), (154, 12, 12)]
theorem okO31 : lAll Hvaq.prog chO31 = true := by kernel_rfl
def chO32 : List (Nat × Nat × Nat) := [(155, 13, 13), (156, 14, 14)]
theorem okO32 : lAll Hvaq.prog chO32 = true := by kernel_rfl
def chO33 : List (Nat × Nat × Nat) := [(157, 15, 15)]
theorem okO33 : lAll Hvaq.prog chO33 = true := by kernel_rfl
def chO34 : List (Nat × Nat × Nat) := [(158, 16, 16)]
theorem okO34 : lAll Hvaq.prog chO34 = true := by kernel_rfl
end Go.Proofs.YgvaqwGreat.Ev
