/- The permutation on the three inputs that the byte's laws need. -/
import Derived.Test.YgvaqwGreatMoA
import Derived.Test.YgvaqwGreatFr0a
import Derived.Test.YgvaqwGreatFr0b
import Derived.Test.YgvaqwGreatFr0c
import Derived.Test.YgvaqwGreatFr0d
import Derived.Test.YgvaqwGreatFr1a
import Derived.Test.YgvaqwGreatFr1b
import Derived.Test.YgvaqwGreatFr1c
import Derived.Test.YgvaqwGreatFr1d
import Derived.Test.YgvaqwGreatFr2a
import Derived.Test.YgvaqwGreatFr2b
import Derived.Test.YgvaqwGreatFr2c
import Derived.Test.YgvaqwGreatFr2d
set_option maxRecDepth 100000
namespace Go.Proofs.YgvaqwGreat.Ev
open Go Go.Proofs
theorem turns_of' {P : Program} {hole N : Nat} {call : CallF} (hc : CallOK P hole call) (hmo : P.follows .mixedOrders = true) {g : Nat} {fn : Func} {body : Code} (hf : P.funcs[g]? = some fn) (hbody : fn.body = some body) (hname : (fn.name == "runtime.NumGoroutine") = false)
    (hN : fn.ntmps = N) (hN1 : 1 ≤ N) (hres : fn.results = #[]) {n el x y id E1 E2 : Nat} {m1 m2 mF : Mem} {Es : Nat → Nat} {ms : Nat → Mem} {k : Nat} {l : List Code} {rest : Code} (hl : l = (spine 3 body).1) (hr : rest = (spine 3 body).2)
    (h1 : cleanR N (evs P N call l (Nat.shiftLeft 10 320) (memF0 n el x)) E1 m1 = true) (hsh : isShape rest = some id)
    (h2 : cleanR N ((codeF P N (shR rest)).fn call E1 m1 stopN) (Es 0) (ms 0) = true)
    (h3 : ∀ i, i < k → cleanR N ((codeF P N (shC rest)).fn call (Es i) (ms i) stopN) (Es (i + 1)) (ms (i + 1)) = true)
    (h4 : cleanR N ((codeF P N (shC rest)).fn call (Es k) (ms k) (stopX id)) E2 m2 = true)
    (h5 : cleanR N ((codeF P N (seq2 rest)).fn call E2 m2 stopN) 0 mF = true) (hF : mF.hp = [blkF0 n el y]) : Turns P hole g n el x y := by
  subst hl hr
  exact turns_of hc hmo hf hbody hname hN hN1 hres h1 hsh h2 h3 h4 h5 hF
theorem shapeF : isShape (restF Hvaq.prog) = some 2 := by kernel_rfl
theorem bodyF115 : Hvaq.f115.body = some (bodyOf Hvaq.prog 115) := by kernel_rfl
theorem ntmpsF115 : Hvaq.f115.ntmps = 59 := by kernel_rfl
theorem resF115 : Hvaq.f115.results = #[] := by kernel_rfl
theorem roundsF0 : ∀ i, i < 24 → cleanR 59 ((codeF Hvaq.prog 59 (shC (restF Hvaq.prog))).fn (callS Hvaq.prog) (EsF i) (mF0 i) stopN) (EsF (i + 1)) (mF0 (i + 1)) = true
  | 0, _ => rF0_0
  | 1, _ => rF0_1
  | 2, _ => rF0_2
  | 3, _ => rF0_3
  | 4, _ => rF0_4
  | 5, _ => rF0_5
  | 6, _ => rF0_6
  | 7, _ => rF0_7
  | 8, _ => rF0_8
  | 9, _ => rF0_9
  | 10, _ => rF0_10
  | 11, _ => rF0_11
  | 12, _ => rF0_12
  | 13, _ => rF0_13
  | 14, _ => rF0_14
  | 15, _ => rF0_15
  | 16, _ => rF0_16
  | 17, _ => rF0_17
  | 18, _ => rF0_18
  | 19, _ => rF0_19
  | 20, _ => rF0_20
  | 21, _ => rF0_21
  | 22, _ => rF0_22
  | 23, _ => rF0_23
  | n + 24, h => absurd h (by omega)
theorem turnsF0 (hole : Nat) : Turns Hvaq.prog hole 115 1600 186 inF0 outF0 :=
  turns_of' (callS_ok hole) orders Hvaq.func115 bodyF115 (names 115 _ Hvaq.func115) ntmpsF115 (by decide) resF115 (id := 2) (Es := EsF) (ms := mF0) (k := 24) (l := (spine 3 (bodyOf Hvaq.prog 115)).1) (rest := restF Hvaq.prog) rfl rfl rF0_pre shapeF rF0_in roundsF0 rF0_out rF0_post rfl
theorem roundsF1 : ∀ i, i < 24 → cleanR 59 ((codeF Hvaq.prog 59 (shC (restF Hvaq.prog))).fn (callS Hvaq.prog) (EsF i) (mF1 i) stopN) (EsF (i + 1)) (mF1 (i + 1)) = true
  | 0, _ => rF1_0
  | 1, _ => rF1_1
  | 2, _ => rF1_2
  | 3, _ => rF1_3
  | 4, _ => rF1_4
  | 5, _ => rF1_5
  | 6, _ => rF1_6
  | 7, _ => rF1_7
  | 8, _ => rF1_8
  | 9, _ => rF1_9
  | 10, _ => rF1_10
  | 11, _ => rF1_11
  | 12, _ => rF1_12
  | 13, _ => rF1_13
  | 14, _ => rF1_14
  | 15, _ => rF1_15
  | 16, _ => rF1_16
  | 17, _ => rF1_17
  | 18, _ => rF1_18
  | 19, _ => rF1_19
  | 20, _ => rF1_20
  | 21, _ => rF1_21
  | 22, _ => rF1_22
  | 23, _ => rF1_23
  | n + 24, h => absurd h (by omega)
theorem turnsF1 (hole : Nat) : Turns Hvaq.prog hole 115 1600 186 inF1 outF1 :=
  turns_of' (callS_ok hole) orders Hvaq.func115 bodyF115 (names 115 _ Hvaq.func115) ntmpsF115 (by decide) resF115 (id := 2) (Es := EsF) (ms := mF1) (k := 24) (l := (spine 3 (bodyOf Hvaq.prog 115)).1) (rest := restF Hvaq.prog) rfl rfl rF1_pre shapeF rF1_in roundsF1 rF1_out rF1_post rfl
theorem roundsF2 : ∀ i, i < 24 → cleanR 59 ((codeF Hvaq.prog 59 (shC (restF Hvaq.prog))).fn (callS Hvaq.prog) (EsF i) (mF2 i) stopN) (EsF (i + 1)) (mF2 (i + 1)) = true
  | 0, _ => rF2_0
  | 1, _ => rF2_1
  | 2, _ => rF2_2
  | 3, _ => rF2_3
  | 4, _ => rF2_4
  | 5, _ => rF2_5
  | 6, _ => rF2_6
  | 7, _ => rF2_7
  | 8, _ => rF2_8
  | 9, _ => rF2_9
  | 10, _ => rF2_10
  | 11, _ => rF2_11
  | 12, _ => rF2_12
  | 13, _ => rF2_13
  | 14, _ => rF2_14
  | 15, _ => rF2_15
  | 16, _ => rF2_16
  | 17, _ => rF2_17
  | 18, _ => rF2_18
  | 19, _ => rF2_19
  | 20, _ => rF2_20
  | 21, _ => rF2_21
  | 22, _ => rF2_22
  | 23, _ => rF2_23
  | n + 24, h => absurd h (by omega)
theorem turnsF2 (hole : Nat) : Turns Hvaq.prog hole 115 1600 186 inF2 outF2 :=
  turns_of' (callS_ok hole) orders Hvaq.func115 bodyF115 (names 115 _ Hvaq.func115) ntmpsF115 (by decide) resF115 (id := 2) (Es := EsF) (ms := mF2) (k := 24) (l := (spine 3 (bodyOf Hvaq.prog 115)).1) (rest := restF Hvaq.prog) rfl rfl rF2_pre shapeF rF2_in roundsF2 rF2_out rF2_post rfl
theorem tabF_ok (hole : Nat) : OrcOK Hvaq.prog hole 115 (memoF 1600 186 tabF) := memoF_ok fun p hp => by
  simp only [tabF, List.mem_cons, List.not_mem_nil, or_false] at hp
  rcases hp with rfl | rfl | rfl
  · exact turnsF0 hole
  · exact turnsF1 hole
  · exact turnsF2 hole
end Go.Proofs.YgvaqwGreat.Ev
