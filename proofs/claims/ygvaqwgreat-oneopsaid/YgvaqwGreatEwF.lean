/- Calls that need no memory of the caller's: a run from the empty memory, carried to any memory. -/
import Derived.Test.YgvaqwGreatEwE
set_option exponentiation.threshold 400
namespace Go.Proofs.YgvaqwGreat.Ev
open Go

def mE : Mem := ⟨[], 0, [], 0, 0, []⟩
/-- codes that say all without a memory -/
def simple (e : Nat) : Bool := Nat.ble (Nat.mod (Nat.add e 31) 32) 8 || Nat.beq e 11 || Nat.beq e 13 || Nat.beq (Nat.mod e 32) 14
/-- the number that n packed bytes make, the least first -/
def leN (n c : Nat) : Nat := Nat.rec (motive := fun _ => Nat → Nat) (fun _ => 0) (fun _ ih c => Nat.add (Nat.div (Nat.mod c cB) 32) (Nat.mul 256 (ih (Nat.shiftRight c 320)))) n c
def findB (nm : Nat) (h : Hp) : Option Blk := h.find? fun b => Nat.beq b.nm nm
/-- a slice of bytes of offset 0 that holds a number's digits -/
def canonS (e : Nat) (b : Blk) : Option Nat := match Nat.beq (offS e) 0 && Nat.ble (lenS e) b.n && Nat.ble (lenS e) (capS e) && Nat.beq (Nat.land (rgN b.c 0 (lenS e)) (maskN (lenS e))) (patN (lenS e)) with
  | true => match leN (lenS e) (rgN b.c 0 (lenS e)) with
    | 0 => none
    | x + 1 => match Nat.beq (digits (x + 1)) (lenS e) && Nat.ble (x + 1) 1942668892225729070919461906823518906642406839052139521251812409738904285205208498176 with
      | true => some (14 + 32 * (x + 1))
      | false => none
  | false => none
def canon (m : Mem) (e : Nat) : Option Nat := match simple e with
  | true => some e
  | false => match isSl e with
    | true => match findB (nmOf e) m.hp with
      | some b => canonS e b
      | none => none
    | false => none
def canonL (m : Mem) : List Nat → Option (List Nat)
  | [] => some []
  | e :: r => match canon m e, canonL m r with
    | some x, some l => some (x :: l)
    | _, _ => none
def canonR (v : Nat) (m : Mem) : Option (List Nat) := match Nat.beq (Nat.mod v 32) 21 with
  | true => match Nat.ble 2 (Nat.div v 137438953472) with
    | true => canonL m ((List.range (Nat.div v 137438953472)).map (pg (agT m.ag (nmOf v))))
    | false => none
  | false => canonL m [v]

section
variable {P : Program} {hole : Nat}

theorem leN_ok : ∀ (n c : Nat), (∀ j, j < n → pg c j / 32 < 256) → ∀ i, i < n → dig (leN n c) i = pg c i / 32 := by
  intro n
  induction n with
  | zero => intro c _ i hi; omega
  | succ n ih =>
    intro c h i hi
    have h0 := h 0 (by omega)
    have e : leN (n + 1) c = pg c 0 / 32 + 256 * leN n (c >>> 320) := by
      show c % cB / 32 + 256 * _ = _
      rw [pg_eq, cB_eq]; rfl
    rw [e]
    unfold dig
    cases i with
    | zero => rw [Nat.pow_zero, Nat.div_one]; omega
    | succ i =>
      have := ih (c >>> 320) (fun j hj => by rw [pg_shift]; exact h (j + 1) (by omega)) i (by omega)
      unfold dig at this
      rw [Nat.pow_succ, Nat.mul_comm (256 ^ i), ← Nat.div_div_eq_div_mul, show (pg c 0 / 32 + 256 * leN n (c >>> 320)) / 256 = leN n (c >>> 320) by omega, this, pg_shift]

/-- states that agree on what simple codes look at -/
theorem VR.simple {s t : St} {e : Nat} {u : Value} (he : simple e = true) (hK : ∀ r, s.K r → t.K r) (hh : ∀ r, s.K r → t.w.heap[r]? = s.w.heap[r]?) (x : VR P hole s e u) : VR P hole t e u := by
  unfold VR at *
  have hn : e % 32 ≠ 10 ∧ e % 32 ≠ 12 ∧ e % 32 ≠ 15 ∧ e % 32 ≠ 16 ∧ e % 32 ≠ 17 ∧ e % 32 ≠ 18 := by
    simp only [Ev.simple, Bool.or_eq_true] at he
    rcases he with ((he | he) | he) | he
    · have : (e + 31) % 32 ≤ 8 := ble_t he
      omega
    · have := beq_t he; omega
    · have := beq_t he; omega
    · have : e % 32 = 14 := beq_t he
      omega
  split <;> rename_i hq <;> simp only [hq] at x
  all_goals first
    | exact x
    | (exfalso; omega)
    | skip
  obtain ⟨x0, b, c, cells, el, h1, h2, h3, h4, h5⟩ := x
  exact ⟨x0, b, c, cells, el, hK b h1, h2, h3, (hh b h1).trans h4, h5⟩
theorem simple_tag {e : Nat} (he : simple e = true) : 1 ≤ e % 32 ∧ e % 32 ≤ 18 := by
  simp only [simple, Bool.or_eq_true] at he
  rcases he with ((he | he) | he) | he
  · have : (e + 31) % 32 ≤ 8 := ble_t he
    omega
  · have := beq_t he; omega
  · have := beq_t he; omega
  · have : e % 32 = 14 := beq_t he
    omega
theorem findB_ok {nm : Nat} {h : Hp} {b : Blk} (hf : findB nm h = some b) : b ∈ h ∧ b.nm = nm := by
  unfold findB at hf
  exact ⟨List.mem_of_find?_eq_some hf, beq_t (by simpa using List.find?_some hf)⟩

/-- what a result means behind the call -/
def ResV (P : Program) (hole : Nat) (s : St) (res : List Nat) (u : Value) : Prop := match res with
  | [x] => VR P hole s x u
  | l => ∃ us : Array Value, u = .tuple us ∧ us.size = l.length ∧ ∀ (i x : Nat), l[i]? = some x → ∃ v, us[i]? = some v ∧ VR P hole s x v

/-- one component: there is a set of new blocks that holds its number -/
theorem canon_ok {m : Mem} {e x : Nat} (h : canon m e = some x) {s0 : St} {T : List Nat} {u : Value} (R : Rel P hole s0 m) (hu : VT P hole s0 T e u) (n0 : Nat) (hnew : ∀ b ∈ m.hp, ∃ r, s0.sg b.nm = some r ∧ n0 ≤ r) :
    ∃ N : Nat → Prop, (∀ r, N r → n0 ≤ r ∧ r < s0.w.heap.size) ∧ ∀ t : St, (∀ r, s0.K r → t.K r) → (∀ r, N r → t.K r) → t.w = s0.w → VR P hole t x u := by
  unfold canon at h
  split at h
  · rename_i hs
    cases h
    have ht := simple_tag hs
    exact ⟨fun _ => False, fun r h => h.elim, fun t h1 _ h3 => VR.simple hs h1 (fun r _ => by rw [h3]) (VR.of_VT ht.1 ht.2 hu)⟩
  · split at h
    · rename_i hsl
      split at h
      · rename_i b hb
        obtain ⟨hb1, hb2⟩ := findB_ok hb
        unfold canonS at h
        split at h
        · rename_i hc
          simp only [Bool.and_eq_true] at hc
          obtain ⟨⟨⟨c1, c2⟩, c3⟩, c4⟩ := hc
          have c1 : offS e = 0 := beq_t c1
          have c2 : lenS e ≤ b.n := ble_t c2
          have c3 : lenS e ≤ capS e := ble_t c3
          have c4 : Nat.land (rgN b.c 0 (lenS e)) (maskN (lenS e)) = patN (lenS e) := beq_t c4
          split at h
          · cases h
          · rename_i y hy
            have hy : leN (lenS e) (rgN b.c 0 (lenS e)) = y + 1 := hy
            split at h
            · rename_i hd
              cases h
              simp only [Bool.and_eq_true] at hd
              have hd1 : digits (y + 1) = lenS e := beq_t hd.1
              obtain ⟨r, hr, hr0⟩ := hnew b hb1
              obtain ⟨r', cells, e1, e2, e3, e4, e5⟩ := R.blk b hb1
              rw [hr] at e1
              cases e1
              obtain ⟨r', cap, g1, g2, g3, _⟩ := VT.anySl hu hsl
              rw [← hb2, hr] at g1
              cases g1
              have hbyte : ∀ j, j < lenS e → pg (rgN b.c 0 (lenS e)) j / 32 < 256 ∧ cells[j]? = some (.int .u8 (pg (rgN b.c 0 (lenS e)) j / 32 : Nat)) := by
                intro j hj
                obtain ⟨v, f1, f2⟩ := e5 j (by omega)
                have f3 : pg (rgN b.c 0 (lenS e)) j = pg b.c j := by rw [pg_rgN hj, Nat.zero_add]
                rw [← f3] at f2
                obtain ⟨f4, f5⟩ := VR.byte f2 (mask_tag c4 hj)
                exact ⟨f4, by rw [f1, f5]⟩
              refine ⟨fun q => q = r, fun q hq => by rw [hq]; exact ⟨hr0, lt_of_heap e2⟩, fun t h1 h2 h3 => ?_⟩
              unfold VR
              rw [show (14 + 32 * (y + 1)) % 32 = 14 by omega, show (14 + 32 * (y + 1)) / 32 = y + 1 by omega]
              refine ⟨by omega, r, cap, cells, b.el, h2 r rfl, by rw [g2, c1, hd1], by omega, by rw [h3]; exact e2, fun i hi => ?_⟩
              rw [hd1] at hi
              rw [(hbyte i hi).2, ← hy, leN_ok _ _ (fun j hj => (hbyte j hj).1) i hi]
            · cases h
        · cases h
      · cases h
    · cases h
end
end Go.Proofs.YgvaqwGreat.Ev
