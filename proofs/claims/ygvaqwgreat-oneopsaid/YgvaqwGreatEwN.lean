/- A call whose result is a new slice of bytes: what it holds is from then on a number. -/
import Derived.Test.YgvaqwGreatEwM
set_option exponentiation.threshold 400
namespace Go.Proofs.YgvaqwGreat.Ev
open Go

def fzS (nx wb : Nat) (wl : List Nat) (v : Nat) (m' : Mem) : R := Bool.casesOn (Nat.ble nx (nmOf v)) none (hget (nmOf v) m'.hp fun b => match canonS v b with
  | some x => some (x, ⟨hdel (nmOf v) m'.hp, m'.nx, m'.ag, m'.na, wb, wl⟩)
  | none => none)
def fz (nx wb : Nat) (wl : List Nat) (v : Nat) (m' : Mem) : R := List.casesOn m'.wl (Bool.casesOn (isSl v) (some (v, ⟨m'.hp, m'.nx, m'.ag, m'.na, wb, wl⟩)) (fzS nx wb wl v m')) (fun _ _ => none)
def orcFz (call : CallF) (g : Nat) : Orc := fun args m => Mem.casesOn m fun hp nx ag na wb wl => Option.casesOn (call g args ⟨hp, nx, ag, na, nx, []⟩) none (fun r => fz nx wb wl r.1 r.2)

section
variable {P : Program} {hole : Nat}

/-- a slice of bytes read as a number -/
theorem canonS_ok {e x : Nat} {b : Blk} (h : canonS e b = some x) (hsl : isSl e = true) {s0 : St} {m : Mem} {T : List Nat} {u : Value} (R : Rel P hole s0 m) (hb1 : b ∈ m.hp) (hb2 : b.nm = nmOf e) (hu : VT P hole s0 T e u) {r : Nat} (hr : s0.sg b.nm = some r)
    (t : St) (h2 : t.K r) (h3 : t.w = s0.w) : VR P hole t x u := by
  unfold canonS at h
  split at h
  · rename_i hc
    simp only [Bool.and_eq_true] at hc
    obtain ⟨⟨⟨c1, c2⟩, c3⟩, c4⟩ := hc
    have c1 : offS e = 0 := beq_t c1
    have c2 : lenS e ≤ b.n := ble_t c2
    have c3 : lenS e ≤ capS e := ble_t c3
    have c4 : Nat.land (rgN b.c 0 (lenS e)) (maskN (lenS e)) = patN (lenS e) := beq_t c4
    split at h
    · cases h
    · rename_i y hy
      have hy : leN (lenS e) (rgN b.c 0 (lenS e)) = y + 1 := hy
      split at h
      · rename_i hd
        cases h
        simp only [Bool.and_eq_true] at hd
        have hd1 : digits (y + 1) = lenS e := beq_t hd.1
        obtain ⟨r', cells, e1, e2, e3, e4, e5⟩ := R.blk b hb1
        rw [hr] at e1
        cases e1
        obtain ⟨r', cap, g1, g2, g3, _⟩ := VT.anySl hu hsl
        rw [← hb2, hr] at g1
        cases g1
        have hbyte : ∀ j, j < lenS e → pg (rgN b.c 0 (lenS e)) j / 32 < 256 ∧ cells[j]? = some (.int .u8 (pg (rgN b.c 0 (lenS e)) j / 32 : Nat)) := by
          intro j hj
          obtain ⟨v, f1, f2⟩ := e5 j (by omega)
          have f3 : pg (rgN b.c 0 (lenS e)) j = pg b.c j := by rw [pg_rgN hj, Nat.zero_add]
          rw [← f3] at f2
          obtain ⟨f4, f5⟩ := VR.byte f2 (mask_tag c4 hj)
          exact ⟨f4, by rw [f1, f5]⟩
        unfold VR
        rw [show (14 + 32 * (y + 1)) % 32 = 14 by omega, show (14 + 32 * (y + 1)) / 32 = y + 1 by omega]
        refine ⟨by omega, r, cap, cells, b.el, h2, by rw [g2, c1, hd1], by omega, by rw [h3]; exact e2, fun i hi => ?_⟩
        rw [hd1] at hi
        rw [(hbyte i hi).2, ← hy, leN_ok _ _ (fun j hj => (hbyte j hj).1) i hi]
      · cases h
  · cases h
theorem fz_ok {call : CallF} (hc : CallOK P hole call) (g : Nat) : OrcOK P hole g (orcFz call g) := by
  intro args m v m' h hm hargs
  have h : (Option.casesOn (call g args ⟨m.hp, m.nx, m.ag, m.na, m.nx, []⟩) none (fun r => fz m.nx m.wb m.wl r.1 r.2) : R) = some (v, m') := by
    cases m; exact h
  cases hcall : call g args ⟨m.hp, m.nx, m.ag, m.na, m.nx, []⟩ with
  | none => rw [hcall] at h; exact absurd h (by simp)
  | some r =>
    obtain ⟨v0, m0⟩ := r
    rw [hcall] at h
    have h : fz m.nx m.wb m.wl v0 m0 = some (v, m') := h
    have hm1 : MOK (⟨m.hp, m.nx, m.ag, m.na, m.nx, []⟩ : Mem) := ⟨hm.nmb, hm.nod, hm.na, Nat.le_refl _⟩
    obtain ⟨s1, s2, s3, s4⟩ := hc g args _ v0 m0 hcall hm1 hargs
    obtain ⟨l, l1, l2⟩ := s1.log
    unfold fz at h
    cases hwl : m0.wl with
    | cons a t => rw [hwl] at h; exact absurd h (by simp)
    | nil =>
      rw [hwl] at h l1
      have hl : l = [] := by
        cases l with
        | nil => rfl
        | cons a t => cases l1
      subst hl
      have hkeep : ∀ b : Blk, b.nm < m.nx → (b ∈ m.hp ↔ b ∈ m0.hp) := fun b hb => l2 b hb (by simp)
      have hwb := hm.wb
      have snx : m.nx ≤ m0.nx := s1.nx
      cases hsl : isSl v0 with
      | false =>
        rw [hsl] at h
        cases h
        refine ⟨⟨⟨s1.ok.nmb, s1.ok.nod, s1.ok.na, Nat.le_trans hwb snx⟩, snx, s1.ag, rfl, [], rfl, fun b hb _ => hkeep b (by omega)⟩, s2, s3, fun T s vs hT R hf hsz hvs => ?_⟩
        exact s4 T s vs hT R hf hsz hvs
      | true =>
        rw [hsl] at h
        have h : fzS m.nx m.wb m.wl v0 m0 = some (v, m') := h
        obtain ⟨hnm, h⟩ := bc h
        have hnm : m.nx ≤ nmOf v0 := ble_t hnm
        obtain ⟨b, b1, b2, h, b4, b5⟩ := hget_ok h s1.ok.nod
        split at h
        · rename_i x hx
          cases h
          have hlt : v < cB := by
            unfold canonS at hx
            split at hx
            · split at hx
              · cases hx
              · rename_i y _
                split at hx
                · rename_i hd
                  cases hx
                  rw [Bool.and_eq_true] at hd
                  have : y + 1 ≤ 1942668892225729070919461906823518906642406839052139521251812409738904285205208498176 := ble_t hd.2
                  refine lt_cB (Nat.lt_of_le_of_lt (show 14 + 32 * (y + 1) ≤ 14 + 32 * 1942668892225729070919461906823518906642406839052139521251812409738904285205208498176 by omega) (by decide +kernel))
                · cases hx
            · cases hx
          refine ⟨⟨⟨fun d hd => s1.ok.nmb d ((b4 d).1 hd).1, b5, s1.ok.na, Nat.le_trans hwb snx⟩, snx, s1.ag, rfl, [], rfl, fun d hd _ => ?_⟩, hlt, s3, fun T s vs hT R hf hsz hvs => ?_⟩
          · show d ∈ m.hp ↔ d ∈ hdel (nmOf v0) m0.hp
            rw [b4 d, hkeep d (by omega)]
            exact ⟨fun q => ⟨q, by omega⟩, fun q => q.1⟩
          · refine (s4 T s vs hT R hf hsz hvs).mono fun e w he => ?_
            obtain ⟨u, rfl, s', w1, R1, V1, E1⟩ := he
            refine ⟨u, rfl, ?_⟩
            have hfresh : ∃ r, s'.sg b.nm = some r ∧ s.w.heap.size ≤ r := by
              obtain ⟨r, q1, q2⟩ := E1.new b b1
              refine ⟨r, q1, ?_⟩
              rcases q2 with q2 | ⟨c, hcm, q3⟩
              · exact q2
              · have hcm : c ∈ m.hp := hcm
                have hcn := hm.nmb c hcm
                have := R1.inj b c b1 ((hkeep c hcn).1 hcm) (by rw [q1, E1.sg _ _ q3])
                rw [this] at b2
                omega
            obtain ⟨rb, rb1, rb2⟩ := hfresh
            let t : St := ⟨s'.sg, fun r => s'.K r ∨ r = rb, s'.w⟩
            have hle : Le s' t := ⟨fun _ _ h => h, fun r h => .inl h, fun _ _ => rfl, fun _ c _ _ h => ⟨c, h, rfl⟩⟩
            have hother : ∀ d, d ∈ m0.hp → d.nm ≠ nmOf v0 → ∀ r, s'.sg d.nm = some r → r ≠ rb := by
              intro d hd hne r hr he
              subst he
              exact hne (by rw [R1.inj d b hd b1 (by rw [hr, rb1]), b2])
            have hrb : rb < s'.w.heap.size := by
              obtain ⟨r, cells, z1, z2, _⟩ := R1.blk b b1
              rw [rb1] at z1
              cases z1
              exact lt_of_heap z2
            refine ⟨t, w1, ⟨fun d hd => ?_, fun c d hcm hdm he => R1.inj c d ((b4 c).1 hcm).1 ((b4 d).1 hdm).1 he, fun r hr => ?_⟩, VT.of_VR (canonS_ok hx hsl R1 b1 b2 V1 rb1 t (.inr rfl) rfl), ?_⟩
            · obtain ⟨d1, d2⟩ := (b4 d).1 hd
              obtain ⟨r, cells, z1, z2, z3, z4, z5⟩ := R1.blk d d1
              refine ⟨r, cells, z1, z2, z3, fun hk => ?_, fun i hi => let ⟨x, x1, x2⟩ := z5 i hi; ⟨x, x1, x2.le hle⟩⟩
              rcases hk with hk | hk
              · exact z4 hk
              · exact hother d d1 d2 r z1 hk
            · rcases hr with hr | rfl
              · exact R1.kin r hr
              · exact hrb
            · exact ⟨E1.os, E1.out, E1.size, E1.keep, E1.shape, E1.froz, E1.sg, E1.sgn, fun r h => .inl (E1.kk r h), fun r h => by
                rcases h with h | rfl
                · exact E1.kn r h
                · exact .inr rb2, fun d hd => E1.new d ((b4 d).1 hd).1⟩
        · cases h
end
end Go.Proofs.YgvaqwGreat.Ev
