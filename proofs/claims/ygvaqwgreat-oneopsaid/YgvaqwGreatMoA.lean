/- The evaluator's oracles, all of them tables; the pieces of OneOp. -/
import Derived.Test.YgvaqwGreatTaD
import Derived.Test.YgvaqwGreatEwO
import Derived.Test.YgvaqwGreatFs0
import Derived.Test.YgvaqwGreatFs1
import Derived.Test.YgvaqwGreatFs2
namespace Go.Proofs.YgvaqwGreat.Ev
open Go
def tabF : List (Nat × Nat) := [(inF0, outF0), (inF1, outF1), (inF2, outF2)]
def orcM (P : Program) : Nat → Option Orc
  | 38 => some (orcFz (call0 P) 38)
  | 57 => some (orcFz (call0 P) 57)
  | 33 => some (memo0 2 11 tab33)
  | 35 => some (memo0 2 11 tab35)
  | 55 => some (memo0 2 17 tab55)
  | 59 => some (memo0 1 7 tab59)
  | 60 => some (memo0 2 17 tab60)
  | 84 => some (memo0 1 13 tab84)
  | 86 => some (memo0 2 11 tab86)
  | 93 => some (memo0 1 2 tab93)
  | 139 => some (memo0 2 2 tab139)
  | 146 => some (memo0 1 1 tab146)
  | 147 => some (memo0 1 1 tab147)
  | 165 => some (memo0 1 2 tab165)
  | 115 => some (memoF 1600 186 tabF)
  | _ => none
def callM (P : Program) : CallF := run1 P (orcM P) 3000
def body3 (P : Program) : Code := bodyOf P 3
def itemsA (P : Program) : List Code := (spine 7 (body3 P)).1
def itemsB (P : Program) : List Code := (spine 3 (spine 7 (body3 P)).2).1
def codeC (P : Program) : Code := (spine 3 (spine 7 (body3 P)).2).2
end Go.Proofs.YgvaqwGreat.Ev
