/- OneOp on one byte out of its pieces' runs. -/
import Derived.Test.YgvaqwGreatMoB
import Derived.Test.YgvaqwGreatProg
import Derived.KernelRfl
set_option maxRecDepth 100000
namespace Go.Proofs.YgvaqwGreat.Ev
open Go Go.Proofs Go.RowKit

theorem allOkP : Hvaq.prog.funcs.toList.all (allOkF Hvaq.prog) = true := by kernel_rfl
theorem callM_ok (hole : Nat) (h : ∀ g o, orcM Hvaq.prog g = some o → OrcOK Hvaq.prog hole g o) : CallOK Hvaq.prog hole (callM Hvaq.prog) := by
  unfold callM
  rw [run1_eq allOkP]
  exact run_ok orders names h 3000
theorem bodyP3 : Hvaq.f3.body = some (body3 Hvaq.prog) := by kernel_rfl
theorem resP3 : Hvaq.f3.results = #[.tmp 2] := by kernel_rfl

theorem spine_add : ∀ (n k : Nat) (c : Code), (spine k (spine n c).2).2 = (spine (n + k) c).2 := by
  intro n
  induction n with
  | zero =>
    intro k c
    rw [Nat.zero_add]
    cases c <;> rfl
  | succ n ih =>
    intro k c
    have e : n + 1 + k = n + k + 1 := by omega
    rw [e]
    cases c
    case seq a b => exact ih k b
    all_goals (cases k <;> rfl)

section
variable {P : Program} {hole N : Nat}
theorem one_of' {call : CallF} (hc : CallOK P hole call) (hmo : P.follows .mixedOrders = true) {g : Nat} {fn : Func} {body : Code} (hf : P.funcs[g]? = some fn) (hbody : fn.body = some body) (hN : fn.ntmps = N) (hN1 : 1 ≤ N) (hN2 : 2 < N) (hres : fn.results = #[.tmp 2])
    {o tk gv : Nat} (ho : o < 256) (ht : tk < 256) (hg : gv < 256) (hh : hole = o + 256 * tk + 65536 * gv) {E2 : Nat} {m2 : Mem} {l : List (Nat × Nat)} {l7 lB : List Code} {cC : Code} (h7 : l7 = (spine 7 body).1) (h8 : lB = (spine 3 (spine 7 body).2).1) (h9 : cC = (spine 3 (spine 7 body).2).2)
    (hA : okA P N call l7 o tk gv = true) (hB : cleanR N (evs P N call lB EB mE) E2 m2 = true) (hC : okC P N call cC (fillEC hole E2) (fillMs hole m2 l) = true) (w : World) :
    Calls P g #[.int .u8 o] w (fun e w' => e = .returned (.bool true) ∧ Grown w w') := by
  subst h7 h8 h9
  exact one_of hc hmo hf hbody hN hN1 hN2 hres ho ht hg hh hA hB hC w
theorem one_of2' {call : CallF} (hc : CallOK P hole call) (hmo : P.follows .mixedOrders = true) {g : Nat} {fn : Func} {body : Code} (hf : P.funcs[g]? = some fn) (hbody : fn.body = some body) (hN : fn.ntmps = N) (hN1 : 1 ≤ N) (hN2 : 2 < N) (hres : fn.results = #[.tmp 2])
    {o tk gv : Nat} (ho : o < 256) (ht : tk < 256) (hg : gv < 256) (hh : hole = o + 256 * tk + 65536 * gv) {E1 E2 : Nat} {m1 m2 : Mem} {l : List (Nat × Nat)} {l1 l2 lB : List Code} {cC : Code} (h1 : l1 = (spine 4 body).1) (h2 : l2 = (spine 3 (spine 4 body).2).1) (h8 : lB = (spine 3 (spine 7 body).2).1) (h9 : cC = (spine 3 (spine 7 body).2).2)
    (hA : cleanR N (evs P N call l1 (Nat.shiftLeft (5 + 32 * o) 320) mE) E1 m1 = true) (hA2 : okA2 P N call l2 E1 0 m1 o tk gv = true) (hB : cleanR N (evs P N call lB EB mE) E2 m2 = true) (hC : okC P N call cC (fillEC hole E2) (fillMs hole m2 l) = true) (w : World) :
    Calls P g #[.int .u8 o] w (fun e w' => e = .returned (.bool true) ∧ Grown w w') := by
  have e7 : (spine 7 body).2 = (spine 3 (spine 4 body).2).2 := (spine_add 4 3 body).symm
  rw [e7] at h8 h9
  subst h1 h2 h8 h9
  exact one_of2 hc hmo hf hbody (show body = nest (spine 4 body).1 (nest (spine 3 (spine 4 body).2).1 (spine 3 (spine 4 body).2).2) by rw [spine_ok, spine_ok]) hN hN1 hN2 hres ho ht hg hh hA hA2 hB hC w
end

theorem hOf_eq (o tk gv : Nat) : hOf o tk gv = o + 256 * tk + 65536 * gv := by
  show o + (256 * tk + 65536 * gv) = _
  omega
/-- what the byte's pieces must show -/
def Shown (o tk gv : Nat) : Prop := o < 256 ∧ tk < 256 ∧ gv < 256 ∧ lC Hvaq.prog o tk gv = true ∧
  (lA Hvaq.prog o tk gv = true ∨ ∃ E1 m1, cleanR 99 (evs Hvaq.prog 99 (callM Hvaq.prog) (itemsA1 Hvaq.prog) (Nat.shiftLeft (5 + 32 * o) 320) mE) E1 m1 = true ∧ okA2 Hvaq.prog 99 (callM Hvaq.prog) (itemsA2 Hvaq.prog) E1 0 m1 o tk gv = true)
theorem shown_ok (horc : ∀ hole g o, orcM Hvaq.prog g = some o → OrcOK Hvaq.prog hole g o) (hB : cleanR 99 (evs Hvaq.prog 99 (callM Hvaq.prog) (itemsB Hvaq.prog) EB mE) E2B mB = true) {o tk gv : Nat} (h : Shown o tk gv) (w : World) :
    Calls Hvaq.prog 3 #[.int .u8 o] w (fun e w' => e = .returned (.bool true) ∧ Grown w w') := by
  obtain ⟨ho, ht, hg, hC, hA⟩ := h
  have hC : okC Hvaq.prog 99 (callM Hvaq.prog) (codeC Hvaq.prog) (fillEC (hOf o tk gv) E2B) (fillMs (hOf o tk gv) mB holesB) = true := hC
  have hc := callM_ok (hOf o tk gv) (horc (hOf o tk gv))
  rcases hA with hA | ⟨E1, m1, hA1, hA2⟩
  · exact one_of' hc orders Hvaq.func3 bodyP3 Hvaq.ntmps3 (by decide) (by decide) resP3 ho ht hg (hOf_eq o tk gv) (l7 := itemsA Hvaq.prog) (lB := itemsB Hvaq.prog) (cC := codeC Hvaq.prog) rfl rfl rfl hA hB hC w
  · exact one_of2' hc orders Hvaq.func3 bodyP3 Hvaq.ntmps3 (by decide) (by decide) resP3 ho ht hg (hOf_eq o tk gv) (l1 := itemsA1 Hvaq.prog) (l2 := itemsA2 Hvaq.prog) (lB := itemsB Hvaq.prog) (cC := codeC Hvaq.prog) rfl rfl rfl rfl hA1 hA2 hB hC w

theorem lAll_mem {P : Program} : ∀ {l : List (Nat × Nat × Nat)}, lAll P l = true → ∀ p ∈ l, lA P p.1 p.2.1 p.2.2 = true ∧ lC P p.1 p.2.1 p.2.2 = true := by
  intro l
  induction l with
  | nil => intro _ p hp; cases hp
  | cons q r ih =>
    intro h p hp
    simp only [lAll, Bool.and_eq_true] at h
    rcases List.mem_cons.1 hp with rfl | hp
    · exact ⟨h.1, h.2.1⟩
    · exact ih h.2.2 p hp
end Go.Proofs.YgvaqwGreat.Ev
