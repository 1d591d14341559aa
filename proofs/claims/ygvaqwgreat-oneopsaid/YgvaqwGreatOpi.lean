/- The bytes' own pieces, run by the kernel. -/
import Derived.Test.YgvaqwGreatMoB
import Derived.Test.YgvaqwGreatProg
import Derived.KernelRfl
set_option maxRecDepth 100000
namespace Go.Proofs.YgvaqwGreat.Ev
open Go Go.Proofs
def chO40 : List (Nat × Nat × Nat) := [(187, 0, 0), (188, 0, 0), (189, 0, 0), (190, 0, 0), (191, 0, 0), (192, 0, 0), (193, 0, 0)]
theorem okO40 : lAll Hvaq.prog chO40 = true := by kernel_rfl
def chO41 : List (Nat × Nat × Nat) := [(194, 0, 0), (195, 0, 0), (196, 0, 0), (197, 0, 0), (198, 0, 0), (199, 0, 0), (200, 0, 0)]
theorem okO41 : lAll Hvaq.prog chO41 = true := by kernel_rfl
def chO42 : List (Nat × Nat × Nat) := [(201, 0, 0), (202, 0, 0), (203, 0, 0), (204, 0, 0), (205, 0, 0), (206, 0, 0), (207, 0, 0)]
theorem okO42 : lAll Hvaq.prog chO42 = true := by kernel_rfl
def chO43 : List (Nat × Nat × Nat) := [(208, 0, 0), (209, 0, 0), (210, 0, 0), (211, 0, 0), (212, 0, 0), (213, 0, 0), (214, 0, 0)]
theorem okO43 : lAll Hvaq.prog chO43 = true := by kernel_rfl
def chO44 : List (Nat × Nat × Nat) := [(215, 0, 0), (216, 0, 0), (217, 0, 0), (218, 0, 0), (219, 0, 0), (220, 0, 0), (221, 0, 0)]
theorem okO44 : lAll Hvaq.prog chO44 = true := by kernel_rfl
end Go.Proofs.YgvaqwGreat.Ev
