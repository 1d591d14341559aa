/- The evaluator once more, the static conditions of the drawn regions not looked at again at every run. -/
import Derived.Test.YgvaqwGreatEwN
set_option exponentiation.threshold 400
namespace Go.Proofs.YgvaqwGreat.Ev
open Go

def regF1 (P : Program) (N : Nat) (ops : List Oper) (draw : Bool) : RegF := match draw with
  | false => opsF P N ops ops
  | true => drawF (dopsF P N ops ops) (lookF P N ops (masks ops []) (List.range ops.length))
def codeF1 (P : Program) (N : Nat) : Code → CodeF
  | .skip => ⟨fun _ E m k => k .normal E m⟩
  | .region _ ops draw => rgnF (regF1 P N ops.toList draw)
  | .seq a b => seqF (codeF1 P N a) (codeF1 P N b)
  | .cond c a b => condF (sel N c) (codeF1 P N a) (codeF1 P N b)
  | .block id a => blkF id (codeF1 P N a)
  | .loop a => loopF (codeF1 P N a)
  | .exit id => ⟨fun _ E m k => k (.exit id) E m⟩
  | .ret => ⟨fun _ E m k => k .ret E m⟩
  | _ => ⟨fun _ _ _ _ => none⟩
def allOk (P : Program) : Code → Bool
  | .region _ ops draw => !draw || okD P ops.toList
  | .seq a b => allOk P a && allOk P b
  | .cond _ a b => allOk P a && allOk P b
  | .block _ a => allOk P a
  | .loop a => allOk P a
  | _ => true
def allOkF (P : Program) (fn : Func) : Bool := match fn.body with
  | some b => allOk P b
  | none => true
def fnF1 (P : Program) (orc : Nat → Option Orc) (g : Nat) : FnF := match orc g with
  | some o => ⟨fun _ args m => o args m⟩
  | none => match P.funcs[g]? with
    | some fn => match fn.body, Nat.ble fn.params.size fn.ntmps with
      | some b, true => bodyF fn.params.size (codeF1 P fn.ntmps b) (resF P fn.ntmps fn.results.toList)
      | _, _ => ⟨fun _ _ _ => none⟩
    | none => ⟨fun _ _ _ => none⟩
def run1 (P : Program) (orc : Nat → Option Orc) (fuel : Nat) : CallF :=
  Nat.rec (motive := fun _ => CallF) (fun _ _ _ => none) (fun _ ih g args m => (fnF1 P orc g).fn ih args m) fuel

theorem codeF1_eq {P : Program} {N : Nat} (c : Code) (h : allOk P c = true) : codeF1 P N c = codeF P N c := by
  induction c with
  | region id ops draw =>
    unfold codeF1 codeF
    cases draw
    · rfl
    · have h : okD P ops.toList = true := h
      unfold regF1 regF
      simp only [h]
  | seq a b iha ihb =>
    simp only [allOk, Bool.and_eq_true] at h
    unfold codeF1 codeF
    rw [iha h.1, ihb h.2]
  | cond c a b iha ihb =>
    simp only [allOk, Bool.and_eq_true] at h
    unfold codeF1 codeF
    rw [iha h.1, ihb h.2]
  | block id a ih =>
    unfold codeF1 codeF
    rw [ih h]
  | loop a ih =>
    unfold codeF1 codeF
    rw [ih h]
  | _ => rfl
theorem fnF1_eq {P : Program} (h : P.funcs.toList.all (allOkF P) = true) (orc : Nat → Option Orc) (g : Nat) : fnF1 P orc g = fnF P orc g := by
  unfold fnF1 fnF
  cases orc g with
  | some o => rfl
  | none =>
    cases hf : P.funcs[g]? with
    | none => rfl
    | some fn =>
      have ha := List.all_eq_true.1 h fn (by
        obtain ⟨hi, rfl⟩ := Array.getElem?_eq_some_iff.1 hf
        exact Array.getElem_mem_toList hi)
      unfold allOkF at ha
      simp only
      cases hb : fn.body with
      | none => rfl
      | some b =>
        rw [hb] at ha
        cases Nat.ble fn.params.size fn.ntmps with
        | false => rfl
        | true => simp only [codeF1_eq b ha]
theorem run1_eq {P : Program} (h : P.funcs.toList.all (allOkF P) = true) (orc : Nat → Option Orc) (fuel : Nat) : run1 P orc fuel = run P orc fuel := by
  induction fuel with
  | zero => rfl
  | succ n ih =>
    funext g args m
    show (fnF1 P orc g).fn (run1 P orc n) args m = (fnF P orc g).fn (run P orc n) args m
    rw [fnF1_eq h, ih]
end Go.Proofs.YgvaqwGreat.Ev
