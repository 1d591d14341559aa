/- The bytes' own pieces, run by the kernel. -/
import Derived.Test.YgvaqwGreatMoB
import Derived.Test.YgvaqwGreatProg
import Derived.KernelRfl
set_option maxRecDepth 100000
namespace Go.Proofs.YgvaqwGreat.Ev
open Go Go.Proofs
def chO20 : List (Nat × Nat × Nat) := [(125, 0, 1), (126, 0, 1), (127, 0, 1), (128, 1, 2), (129, 2, 3), (130, 3, 4)]
theorem okO20 : lAll Hvaq.prog chO20 = true := by kernel_rfl
def chO21 : List (Nat × Nat × Nat) := [(131, 4, 5), (132, 5, 6), (133, 6, 7)]
theorem okO21 : lAll Hvaq.prog chO21 = true := by kernel_rfl
def chO22 : List (Nat × Nat × Nat) := [(134, 7, 8), (135, 8, 9)]
theorem okO22 : lAll Hvaq.prog chO22 = true := by kernel_rfl
def chO23 : List (Nat × Nat × Nat) := [(136, 9, 10), (137, 10, 11)]
theorem okO23 : lAll Hvaq.prog chO23 = true := by kernel_rfl
def chO24 : List (Nat × Nat × Nat) := [(138, 11, 12), (139, 12, 13)]
theorem okO24 : lAll Hvaq.prog chO24 = true := by kernel_rfl
end Go.Proofs.YgvaqwGreat.Ev
