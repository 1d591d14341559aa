/- The bytes' own pieces, run by the kernel. -/
import Derived.Test.YgvaqwGreatMoB
import Derived.Test.YgvaqwGreatProg
import Derived.KernelRfl
set_option maxRecDepth 100000
namespace Go.Proofs.YgvaqwGreat.Ev
open Go Go.Proofs
def chO35 : List (Nat × Nat × Nat) := [(159, 17, 17), (160, 2, 0), (161, 3, 0)]
theorem okO35 : lAll Hvaq.prog chO35 = true := by kernel_rfl
def chO36 : List (Nat × Nat × Nat) := [(162, 4, 0), (163, 5, 0), (164, 6, 0), (165, 0, 0)]
theorem okO36 : lAll Hvaq.prog chO36 = true := by kernel_rfl
def chO37 : List (Nat × Nat × Nat) := [(166, 0, 0), (167, 0, 0), (168, 0, 0), (169, 0, 0), (170, 0, 0), (171, 0, 0), (172, 0, 0)]
theorem okO37 : lAll Hvaq.prog chO37 = true := by kernel_rfl
def chO38 : List (Nat × Nat × Nat) := [(173, 0, 0), (174, 0, 0), (175, 0, 0), (176, 0, 0), (177, 0, 0), (178, 0, 0), (179, 0, 0)]
theorem okO38 : lAll Hvaq.prog chO38 = true := by kernel_rfl
def chO39 : List (Nat × Nat × Nat) := [(180, 0, 0), (181, 0, 0), (182, 0, 0), (183, 0, 0), (184, 0, 0), (185, 0, 0), (186, 0, 0)]
theorem okO39 : lAll Hvaq.prog chO39 = true := by kernel_rfl
end Go.Proofs.YgvaqwGreat.Ev
