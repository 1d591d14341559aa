/- The whole of OneOp where what comes before the full stack is itself run in two pieces. -/
import Derived.Test.YgvaqwGreatEwO
set_option exponentiation.threshold 400
namespace Go.Proofs.YgvaqwGreat.Ev
open Go Go.RowKit

/-- the second piece: from E, m on -/
def okA2 (P : Program) (N : Nat) (call : CallF) (l : List Code) (E m0 : Nat) (m : Mem) (o tk gv : Nat) : Bool := Nat.beq m0 m0 && match evs P N call l E m with
  | some (E, _) => Nat.beq (tg E 0) (5 + 32 * o) && Nat.beq (tg E 3) (4 + 32 * tk) && Nat.beq (tg E 4) (4 + 32 * gv)
  | none => false

section
variable {P : Program} {hole N : Nat}

theorem one_of2 {call : CallF} (hc : CallOK P hole call) (hmo : P.follows .mixedOrders = true) {g : Nat} {fn : Func} {body rest : Code} {l1 l2 : List Code} (hf : P.funcs[g]? = some fn) (hbody : fn.body = some body) (hcut : body = nest l1 (nest l2 rest)) (hN : fn.ntmps = N) (hN1 : 1 ≤ N) (hN2 : 2 < N) (hres : fn.results = #[.tmp 2])
    {o tk gv : Nat} (ho : o < 256) (ht : tk < 256) (hg : gv < 256) (hh : hole = o + 256 * tk + 65536 * gv) {E1 E2 : Nat} {m1 m2 : Mem} {l : List (Nat × Nat)}
    (hA : cleanR N (evs P N call l1 (Nat.shiftLeft (5 + 32 * o) 320) mE) E1 m1 = true) (hA2 : okA2 P N call l2 E1 0 m1 o tk gv = true) (hB : cleanR N (evs P N call (spine 3 rest).1 EB mE) E2 m2 = true)
    (hC : okC P N call (spine 3 rest).2 (fillEC hole E2) (fillMs hole m2 l) = true) (w : World) : Calls P g #[.int .u8 o] w (fun e w' => e = .returned (.bool true) ∧ Grown w w') := by
  refine calls_of_wp hf hbody ?_
  let s0 : St := ⟨fun _ => none, fun _ => False, w⟩
  have hsg : ∀ n, s0.sg n = none := fun _ => rfl
  have hR0 : Rel P hole s0 mE := ⟨fun b hb => (by cases hb), fun b c hb => (by cases hb), fun r hr => hr.elim⟩
  have hm0 : MOK mE := ⟨fun b hb => (by cases hb), List.Pairwise.nil, rfl, Nat.le_refl _⟩
  have hlt : 5 + 32 * o < cB := lt_cB (Nat.lt_of_le_of_lt (show 5 + 32 * o ≤ 10000 by omega) (by decide +kernel))
  have hu : VT P hole s0 [] (5 + 32 * o) (.int .u8 o) := VT.of_VR (by
    unfold VR
    rw [show (5 + 32 * o) % 32 = 5 by omega, show (5 + 32 * o) / 32 = o by omega]
    exact ⟨ho, by rw [toI_u8 ho]⟩)
  have hst := at_start (N := N) hm0 rfl hlt hu hR0 hN1
  have hB0 : Bare s0 mE := fun n _ => rfl
  rw [hN, hcut]
  refine row hc hmo hA hB0 (fun a w hat => ?_) hst
  unfold okA2 at hA2
  rw [Bool.and_eq_true] at hA2
  obtain ⟨_, hA2⟩ := hA2
  split at hA2
  · rename_i E3 m3 hrun
    simp only [Bool.and_eq_true] at hA2
    obtain ⟨⟨a0, a3⟩, a4⟩ := hA2
    obtain ⟨hm, hag, hle, s, rfl, hE, hd, hR, hev⟩ := hat
    obtain ⟨st3, h3⟩ := evs_ok (hole := hole) (N := N) hc hmo _ hm hrun
    refine h3 m3.ag s a _ _ (Suf.refl _) hE.none hR (hB0.fresh hev hle _) fun a' w' hq => ?_
    obtain ⟨_, s', q1, q2, q3, q4, q5⟩ := hq
    have hat := to_hole (P := P) (N := N) hsg ho ht hg hh (beq_t a0) (beq_t a3) (beq_t a4) (a := a') (w := w') (m := m3) (T := m3.ag) ⟨rfl, s', q1, q2, q3.trans hd, q4, hev.trans q5 hle st3.nx⟩
    rw [← spine_ok 3 rest]
    refine row hc hmo hB hB0 (fun a w hat => ?_) hat
    have hg' : hole / 65536 < 256 := by omega
    have hat := at_fillMs hg' l (at_fillE hg' 4 (at_fillE hg' 3 hat))
    obtain ⟨hm, hag, hle, s, rfl, hE, hd, hR, hev⟩ := hat
    unfold okC at hC
    split at hC
    · rename_i E3 m3 hrun3
      obtain ⟨ex, E4, m4, k1, k2, k3⟩ := codeF_ok (N := N) hc hmo _ hm hrun3
      obtain ⟨g1, g2⟩ := stopR_ok _ _ _ _ k1
      cases g2
      subst g1
      refine wp_mono (k3 m3.ag s a (Suf.refl _) hE.none hR (hB0.fresh hev hle _)) fun e a' w' hq => ?_
      obtain ⟨rfl, s', rfl, z2, z3, z4, z5⟩ := hq
      obtain ⟨v, v1, v2⟩ := z2.val 2 hN2
      rw [show tg E3 2 = 41 from beq_t hC] at v2
      obtain ⟨b, e1, e2⟩ := VT.bool v2 rfl
      have hb : b = true := by
        cases b
        · exact absurd e2 (by decide)
        · rfl
      subst hb
      refine ⟨z3.trans hd, .bool true, ?_, rfl, grown_of (hev.trans z5 hle k2.nx)⟩
      rw [results_eq, hres]
      have hv : a'.tmps.getD 2 undef = .bool true := by rw [Array.getD_eq_getD_getElem?, v1, e1]; rfl
      simp [resV, hv]
    · cases hC
  · cases hA2
end
end Go.Proofs.YgvaqwGreat.Ev
