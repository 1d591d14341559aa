/-
  No cell of these rows narrows 'for every input' (looked for: loops, veiled, ifaces, maps, wideKeys, modest, calm, conditions, laid).
  DERIVED. THE GIVEN ROWS OF THIS SEAT. 1 by the template 'for every input the law returns true; each argument reads behind the call as it read before'; 0 by the template 'total and deterministic' (their statements: YgvaqwGreatTotals.lean).
  GIVEN WITH THE SEED: the statements are not yours to turn. If you find one false, say at which input.
  Laid BY PROGRAM, IN A SANDBOX (cutbox-rows.mjs): the forced cells as the released guide's own fill.sh prints them over the translation 876939ab39a0a43e… (all of the seat's roots in one cut). By AI agents, Wed Nov 11 2026. No macro, syntax, notation, axiom, sorry.
-/
import Derived.Test.YgvaqwGreatChecked
import GoSem.Claim
import GoSem.ClaimJoined
import GoSem.ClaimMapViews
import Derived.JoinedTies
import Derived.KernelRfl
namespace Go.Proofs.YgvaqwGreat
/- THE CELL 'sum', in the pinned program and in every row, IS THE sha256 OF THE DUMP (.gsa) THAT YgvaqwGreatProg.lean LOADS. Nothing in Lean hashes anything: it is a label: what it is worth is what the hold of that sum in a sandbox is worth. -/
noncomputable def Hvaq.pinned : Pinned := { name := "ygvaqwgreat", sum := "876939ab39a0a43ee3e9302b8c0879ff0a2380f8fab28198f7cf67f69d306793", checked := Hvaq.checked }
namespace Rows
def none {H : Type} : Left H := { results := [], args := [] }

/-- 'law.OneOp': WHATEVER THE INPUT: true; the input reads as it did. -/
def oneOpSpec : ChangeSpec := { name := "oneOp", fn := fun _ => fun
  | [d] => { results := [.lit (.bool true)], args := [d] }
  | _ => none }
def oneOpRow : OpenClaim := { program := "ygvaqwgreat", sum := "876939ab39a0a43ee3e9302b8c0879ff0a2380f8fab28198f7cf67f69d306793", func := "yellow/law.OneOp", spec := "oneOp", apart := false }
def OneOpSaid : Prop := oneOpRow.holds Hvaq.pinned (OpenSpec.ofChange oneOpSpec)

/-- ITS FALSE NEIGHBOUR: 'it returns false'. Refute it at one input. -/
def oneOpWrong : ChangeSpec := { name := "oneOp", fn := fun _ => fun
  | [d] => { results := [.lit (.bool false)], args := [d] }
  | _ => none }
def OneOpWrongFalsely : Prop := oneOpRow.holds Hvaq.pinned (OpenSpec.ofChange oneOpWrong)

end Rows
end Go.Proofs.YgvaqwGreat
