/- The whole of OneOp out of three pieces: what comes before the full stack (each byte by itself), the full stack (the byte left open), the last step (each byte by itself). -/
import Derived.Test.YgvaqwGreatEwL
set_option exponentiation.threshold 400
namespace Go.Proofs.YgvaqwGreat.Ev
open Go Go.RowKit

def okA (P : Program) (N : Nat) (call : CallF) (l : List Code) (o tk gv : Nat) : Bool := match evs P N call l (Nat.shiftLeft (5 + 32 * o) 320) mE with
  | some (E, _) => Nat.beq (tg E 0) (5 + 32 * o) && Nat.beq (tg E 3) (4 + 32 * tk) && Nat.beq (tg E 4) (4 + 32 * gv)
  | none => false
def okC (P : Program) (N : Nat) (call : CallF) (c : Code) (E : Nat) (m : Mem) : Bool := match (codeF P N c).fn call E m stopR with
  | some (E', _) => Nat.beq (tg E' 2) 41
  | none => false
def fillEC (hole E : Nat) : Nat := fillC hole (fillC hole E 4) 5

section
variable {P : Program} {hole N : Nat}

theorem grown_of {s0 s : St} {S' : Blk → Prop} {hi : Nat} (h : Evo s0 s (· ∈ mE.hp) S' 0 hi) : Grown s0.w s.w := by
  refine ⟨⟨h.os, h.out, fun i hi => ?_⟩, h.froz, h.size⟩
  have e := h.keep i hi fun b hb => by cases hb
  rw [e]
  split
  · rename_i h1 h2
    rw [h1] at h2
    cases h2
    exact ⟨rfl, rfl, rfl, fun _ _ => rfl⟩
  · rename_i h1 h2
    rw [h1] at h2
    cases h2
    exact .inr ⟨rfl, rfl⟩
  · rfl

theorem one_of {call : CallF} (hc : CallOK P hole call) (hmo : P.follows .mixedOrders = true) {g : Nat} {fn : Func} {body : Code} (hf : P.funcs[g]? = some fn) (hbody : fn.body = some body) (hN : fn.ntmps = N) (hN1 : 1 ≤ N) (hN2 : 2 < N) (hres : fn.results = #[.tmp 2])
    {o tk gv : Nat} (ho : o < 256) (ht : tk < 256) (hg : gv < 256) (hh : hole = o + 256 * tk + 65536 * gv) {E2 : Nat} {m2 : Mem} {l : List (Nat × Nat)}
    (hA : okA P N call (spine 7 body).1 o tk gv = true) (hB : cleanR N (evs P N call (spine 3 (spine 7 body).2).1 EB mE) E2 m2 = true)
    (hC : okC P N call (spine 3 (spine 7 body).2).2 (fillEC hole E2) (fillMs hole m2 l) = true) (w : World) : Calls P g #[.int .u8 o] w (fun e w' => e = .returned (.bool true) ∧ Grown w w') := by
  refine calls_of_wp hf hbody ?_
  let s0 : St := ⟨fun _ => none, fun _ => False, w⟩
  have hsg : ∀ n, s0.sg n = none := fun _ => rfl
  have hR0 : Rel P hole s0 mE := ⟨fun b hb => (by cases hb), fun b c hb => (by cases hb), fun r hr => hr.elim⟩
  have hm0 : MOK mE := ⟨fun b hb => (by cases hb), List.Pairwise.nil, rfl, Nat.le_refl _⟩
  have hlt : 5 + 32 * o < cB := lt_cB (Nat.lt_of_le_of_lt (show 5 + 32 * o ≤ 10000 by omega) (by decide +kernel))
  have hu : VT P hole s0 [] (5 + 32 * o) (.int .u8 o) := VT.of_VR (by
    unfold VR
    rw [show (5 + 32 * o) % 32 = 5 by omega, show (5 + 32 * o) / 32 = o by omega]
    exact ⟨ho, by rw [toI_u8 ho]⟩)
  obtain ⟨_, _, _, _, _, hE, _⟩ := at_start (N := N) hm0 rfl hlt hu hR0 hN1
  have hB0 : Bare s0 mE := fun n _ => rfl
  rw [hN]
  rw [← spine_ok 7 body]
  unfold okA at hA
  split at hA
  · rename_i E1 m1 hrun
    simp only [Bool.and_eq_true] at hA
    obtain ⟨⟨a0, a3⟩, a4⟩ := hA
    obtain ⟨_, h3⟩ := evs_ok (hole := hole) (N := N) hc hmo _ hm0 hrun
    have hst := (at_start (N := N) hm0 rfl hlt hu hR0 hN1)
    obtain ⟨_, _, _, s, hsw, hE, _, hR, hev⟩ := hst
    refine h3 m1.ag s0 _ _ _ (Suf.refl _) ?_ hR0 (fun n _ _ => rfl) fun a' w' hq => ?_
    · refine ⟨by simp; omega, fun t ht' => ?_⟩
      cases t with
      | zero => exact ⟨_, by rw [Array.getElem?_append_left (by simp)]; rfl, by rw [tg_pack, pg_self hlt]; exact hu.none⟩
      | succ t =>
        refine ⟨undef, ?_, VT.top (by rw [tg_pack, pg_zero_of hlt (by omega)])⟩
        simp only
        rw [Array.getElem?_append_right (by simp), Array.getElem?_replicate, if_pos (by simp; omega)]
    · have hat := to_hole hsg ho ht hg hh (beq_t a0) (beq_t a3) (beq_t a4) hq
      rw [← spine_ok 3 (spine 7 body).2]
      refine row hc hmo hB hB0 (fun a w hat => ?_) hat
      have hg' : hole / 65536 < 256 := by omega
      have hat := at_fillMs hg' l (at_fillE hg' 4 (at_fillE hg' 3 hat))
      obtain ⟨hm, hag, hle, s, rfl, hE, hd, hR, hev⟩ := hat
      unfold okC at hC
      split at hC
      · rename_i E3 m3 hrun3
        obtain ⟨ex, E4, m4, k1, k2, k3⟩ := codeF_ok (N := N) hc hmo _ hm hrun3
        obtain ⟨g1, g2⟩ := stopR_ok _ _ _ _ k1
        cases g2
        subst g1
        refine wp_mono (k3 m3.ag s a (Suf.refl _) hE.none hR (hB0.fresh hev hle _)) fun e a' w' hq => ?_
        obtain ⟨rfl, s', rfl, z2, z3, z4, z5⟩ := hq
        obtain ⟨v, v1, v2⟩ := z2.val 2 hN2
        rw [show tg E3 2 = 41 from beq_t hC] at v2
        obtain ⟨b, e1, e2⟩ := VT.bool v2 rfl
        have hb : b = true := by
          cases b
          · exact absurd e2 (by decide)
          · rfl
        subst hb
        refine ⟨z3.trans hd, .bool true, ?_, rfl, grown_of (hev.trans z5 hle k2.nx)⟩
        rw [results_eq, hres]
        have hv : a'.tmps.getD 2 undef = .bool true := by rw [Array.getD_eq_getD_getElem?, v1, e1]; rfl
        simp [resV, hv]
      · cases hC
  · cases hA
end
end Go.Proofs.YgvaqwGreat.Ev
