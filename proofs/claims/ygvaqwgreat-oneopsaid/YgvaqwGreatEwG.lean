/- A run from a small memory, carried to any memory that holds it. -/
import Derived.Test.YgvaqwGreatEwF
set_option exponentiation.threshold 400
namespace Go.Proofs.YgvaqwGreat.Ev
open Go
section
variable {P : Program} {hole : Nat}

theorem canonL_get {m : Mem} : ∀ {l res : List Nat}, canonL m l = some res → res.length = l.length ∧ ∀ (i x : Nat), res[i]? = some x → ∃ e, l[i]? = some e ∧ canon m e = some x := by
  intro l
  induction l with
  | nil => intro res h; cases h; exact ⟨rfl, fun i x h => by simp at h⟩
  | cons e r ih =>
    intro res h
    unfold canonL at h
    split at h
    · rename_i x l' h1 h2
      cases h
      obtain ⟨q1, q2⟩ := ih h2
      refine ⟨by simp [q1], fun i y hy => ?_⟩
      cases i with
      | zero => simp at hy; subst hy; exact ⟨e, rfl, h1⟩
      | succ i =>
        obtain ⟨e', g1, g2⟩ := q2 i y (by simpa using hy)
        exact ⟨e', by simpa using g1, g2⟩
    · cases h

/-- all components at once -/
theorem canonR_ok {m : Mem} {v : Nat} {res : List Nat} (h : canonR v m = some res) {s0 : St} {u : Value} (R : Rel P hole s0 m) (hu : VT P hole s0 m.ag v u) (n0 : Nat) (hnew : ∀ b ∈ m.hp, ∃ r, s0.sg b.nm = some r ∧ n0 ≤ r) :
    ∃ N : Nat → Prop, (∀ r, N r → n0 ≤ r ∧ r < s0.w.heap.size) ∧ ∀ t : St, (∀ r, s0.K r → t.K r) → (∀ r, N r → t.K r) → t.w = s0.w → ResV P hole t res u := by
  unfold canonR at h
  split at h
  · rename_i h21
    have h21 : v % 32 = 21 := beq_t h21
    split at h
    · rename_i hle
      have hle : 2 ≤ v / 137438953472 := ble_t hle
      obtain ⟨_, us, rfl, hsz, hel⟩ := VT.tup hu h21
      obtain ⟨q1, q2⟩ := canonL_get h
      have q1 : res.length = v / 137438953472 := by rw [q1, List.length_map, List.length_range]; rfl
      have each : ∀ (i x : Nat), res[i]? = some x → ∃ w, us[i]? = some w ∧ ∃ N : Nat → Prop, (∀ r, N r → n0 ≤ r ∧ r < s0.w.heap.size) ∧ ∀ t : St, (∀ r, s0.K r → t.K r) → (∀ r, N r → t.K r) → t.w = s0.w → VR P hole t x w := by
        intro i x hx
        have hi : i < res.length := (List.getElem?_eq_some_iff.1 hx).1
        obtain ⟨e, e1, e2⟩ := q2 i x hx
        rw [List.getElem?_map, List.getElem?_range (by show i < v / 137438953472; omega)] at e1
        simp only [Option.map_some, Option.some.injEq] at e1
        obtain ⟨w, w1, w2⟩ := hel i (by omega)
        rw [e1] at w2
        refine ⟨w, w1, ?_⟩
        have hw : VT P hole s0 m.ag e w := by
          rcases w2 with w2 | w2
          · exact VT.top w2
          · exact VT.of_VA w2
        exact canon_ok e2 R hw n0 hnew
      refine ⟨fun r => ∃ (i x : Nat) (w : Value) (N : Nat → Prop), res[i]? = some x ∧ us[i]? = some w ∧ (∀ r, N r → n0 ≤ r ∧ r < s0.w.heap.size) ∧ (∀ t : St, (∀ r, s0.K r → t.K r) → (∀ r, N r → t.K r) → t.w = s0.w → VR P hole t x w) ∧ N r,
        fun r ⟨_, _, _, N, _, _, hN, _, hr⟩ => hN r hr, fun t h1 h2 h3 => ?_⟩
      have key : ∃ us' : Array Value, Value.tuple us = .tuple us' ∧ us'.size = res.length ∧ ∀ (i x : Nat), res[i]? = some x → ∃ v, us'[i]? = some v ∧ VR P hole t x v := by
        refine ⟨us, rfl, by omega, fun i x hx => ?_⟩
        obtain ⟨w, w1, N, n1, n2⟩ := each i x hx
        exact ⟨w, w1, n2 t h1 (fun r hr => h2 r ⟨i, x, w, N, hx, w1, n1, n2, hr⟩) h3⟩
      unfold ResV
      split
      · simp at q1; omega
      · exact key
    · cases h
  · obtain ⟨q1, q2⟩ := canonL_get h
    match res, q1 with
    | [x], _ =>
      obtain ⟨e, e1, e2⟩ := q2 0 x rfl
      simp at e1
      subst e1
      exact canon_ok e2 R hu n0 hnew
    | [], q => simp at q
    | _ :: _ :: _, q => simp at q

theorem memo_call {call : CallF} (hc : CallOK P hole call) {g : Nat} {args0 : List Nat} {m0 m0' : Mem} {v : Nat} {hp1 : Hp} {res : List Nat} (hrun : call g args0 m0 = some (v, m0')) (hm0 : MOK m0) (hlt : ∀ e ∈ args0, e < cB)
    (hkeep : ∀ b ∈ m0.hp, b ∈ m0'.hp) (hp1in : ∀ b ∈ hp1, b ∈ m0'.hp ∧ b ∉ m0.hp) (hcan : canonR v ⟨hp1, m0'.nx, m0'.ag, m0'.na, m0'.wb, m0'.wl⟩ = some res)
    {m : Mem} {s s0 : St} (R : Rel P hole s m) (hK : s0.K = s.K) (hw : s0.w = s.w) (R0 : Rel P hole s0 m0) (hfr : ∀ n, m0.nx ≤ n → s0.sg n = none)
    (hmap : ∀ b0 ∈ m0.hp, ∃ b ∈ m.hp, s0.sg b0.nm = s.sg b.nm ∧ b0.n = b.n ∧ b0.c = b.c ∧ ∀ j, j < b.n → simple (pg b.c j) = true)
    {vs : Array Value} (hsz : vs.size = args0.length) (hargs : ∀ (i e : Nat), args0[i]? = some e → ∃ u, vs[i]? = some u ∧ VT P hole s0 m0'.ag e u) :
    Calls P g vs s.w (fun e w => ∃ u, e = .returned u ∧ ∃ s' : St, s'.w = w ∧ s'.sg = s.sg ∧ Rel P hole s' m ∧ Evo s s' (· ∈ m.hp) (· ∈ m.hp) m.nx m.nx ∧ ResV P hole s' res u) := by
  obtain ⟨h1, _, _, h4⟩ := hc g args0 m0 v m0' hrun hm0 hlt
  have hcl := h4 m0'.ag s0 vs (Suf.refl _) R0 (fun n hn _ => hfr n hn) hsz hargs
  rw [hw] at hcl
  refine hcl.mono fun e w he => ?_
  obtain ⟨u, rfl, s1, w1, R1, V1, E1⟩ := he
  refine ⟨u, rfl, ?_⟩
  have hnew : ∀ b ∈ hp1, ∃ r, s1.sg b.nm = some r ∧ s.w.heap.size ≤ r := by
    intro b hb
    obtain ⟨r, q1, q2⟩ := E1.new b (hp1in b hb).1
    refine ⟨r, q1, ?_⟩
    rw [hw] at q2
    rcases q2 with q2 | ⟨c, hcm, q3⟩
    · exact q2
    · have := R1.inj b c (hp1in b hb).1 (hkeep c hcm) (by rw [q1, E1.sg _ _ q3])
      exact absurd (this ▸ hcm) (hp1in b hb).2
  obtain ⟨Nw, n1, n2⟩ := canonR_ok (P := P) (hole := hole) hcan (s0 := s1) (RelS.sub R1 fun b hb => (hp1in b hb).1) V1 s.w.heap.size hnew
  have hK0 : ∀ r, s0.K r ↔ s.K r := fun r => by rw [hK]
  have knew : ∀ r, (s1.K r ∨ Nw r) → s.K r ∨ s.w.heap.size ≤ r := by
    rintro r (h | h)
    · rcases E1.kn r h with q | q
      · exact .inl ((hK0 r).1 q)
      · rw [hw] at q; exact .inr q
    · exact .inr (n1 r h).1
  have hdata : ∀ r, (∀ b0 ∈ m0.hp, s0.sg b0.nm ≠ some r) → r < s.w.heap.size → s1.w.heap[r]? = s.w.heap[r]? := by
    intro r hr hlt
    rw [← hw] at hlt ⊢
    exact E1.keep r hlt hr
  have hKkeep : ∀ r, s.K r → s1.w.heap[r]? = s.w.heap[r]? := by
    intro r hr
    refine hdata r (fun b0 hb0 he => ?_) (R.kin r hr)
    obtain ⟨r', _, q1, _, _, q2, _⟩ := R0.blk b0 hb0
    rw [q1] at he
    cases he
    exact q2 ((hK0 r).2 hr)
  have hshape : ∀ (r : Nat) (c : Array Value) (el : TypeId) (fz : Nat × Nat), s.w.heap[r]? = some (.cells c el fz) → ∃ c' : Array Value, s1.w.heap[r]? = some (.cells c' el fz) ∧ c'.size = c.size := by
    intro r c el fz h
    exact E1.shape r c el fz (by rw [hw]; exact h)
  let t : St := ⟨s.sg, fun r => s1.K r ∨ Nw r, s1.w⟩
  have hle : Le s t := ⟨fun _ _ h => h, fun r h => .inl (E1.kk r ((hK0 r).2 h)), hKkeep, hshape⟩
  have hszle : s.w.heap.size ≤ s1.w.heap.size := by have := E1.size; rw [hw] at this; exact this
  refine ⟨t, w1, rfl, ⟨fun b hb => ?_, fun b c hb hcm he => R.inj b c hb hcm he, fun r hr => ?_⟩, ?_, n2 t (fun r h => .inl h) (fun r h => .inr h) rfl⟩
  · obtain ⟨r, cells, e1, e2, e3, e4, e5⟩ := R.blk b hb
    have hnk : ¬ t.K r := fun h => by
      rcases knew r h with q | q
      · exact e4 q
      · have := lt_of_heap e2; omega
    by_cases hd : ∃ b0 ∈ m0.hp, s0.sg b0.nm = some r
    · obtain ⟨b0, hb0, hr0⟩ := hd
      obtain ⟨b1, hb1, q1, q2, q3, q4⟩ := hmap b0 hb0
      have hbb : b1 = b := R.inj b1 b hb1 hb (by rw [← q1, hr0, e1])
      subst hbb
      obtain ⟨r', cells', f1, f2, f3, f4, f5⟩ := R1.blk b0 (hkeep b0 hb0)
      rw [E1.sg _ _ hr0] at f1
      cases f1
      obtain ⟨c', g1, g2⟩ := hshape r cells b1.el (0, 0) e2
      have g1' := g1
      rw [f2] at g1'
      simp only [Option.some.injEq, Obj.cells.injEq, and_true] at g1'
      obtain ⟨hcc, _⟩ := g1'
      subst hcc
      refine ⟨r, cells', e1, g1, by omega, hnk, fun i hi => ?_⟩
      obtain ⟨x, x1, x2⟩ := f5 i (by omega)
      rw [q3] at x2
      exact ⟨x, x1, VR.simple (q4 i hi) (fun r h => .inl h) (fun _ _ => rfl) x2⟩
    · refine ⟨r, cells, e1, ?_, e3, hnk, fun i hi => let ⟨x, x1, x2⟩ := e5 i hi; ⟨x, x1, x2.le hle⟩⟩
      show s1.w.heap[r]? = _
      rw [hdata r (fun b0 hb0 he => hd ⟨b0, hb0, he⟩) (lt_of_heap e2)]
      exact e2
  · rcases hr with hr | hr
    · exact R1.kin r hr
    · exact (n1 r hr).2
  · refine ⟨?_, ?_, hszle, fun r hr hS => ?_, hshape, ?_, fun _ _ h => h, fun _ h => absurd rfl h, fun r h => .inl (E1.kk r ((hK0 r).2 h)), knew, fun b hb => ?_⟩
    · have := E1.os; rw [hw] at this; exact this
    · have := E1.out; rw [hw] at this; exact this
    · refine hdata r (fun b0 hb0 he => ?_) hr
      obtain ⟨b, hb, q1, _⟩ := hmap b0 hb0
      exact hS b hb (by rw [← q1]; exact he)
    · have := E1.froz; rw [hw] at this; exact this
    · obtain ⟨r, _, e1, _⟩ := R.blk b hb
      exact ⟨r, e1, .inr ⟨b, hb, e1⟩⟩
end
end Go.Proofs.YgvaqwGreat.Ev
