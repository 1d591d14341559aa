/- Regions that draw their order: each step keeps the invariant; the region whole. -/
import Derived.Test.YgvaqwGreatEwA
set_option exponentiation.threshold 400
namespace Go.Proofs.YgvaqwGreat.Ev
open Go
section
variable {P : Program} {hole N : Nat} {ops : Array Oper} {f : Nat → Rec}

theorem getD_set {listed : Array Bool} {i : Nat} (hi : i < listed.size) (j : Nat) : (listed.setIfInBounds i true).getD j false = if j = i then true else listed.getD j false := by
  rw [Array.getD_eq_getD_getElem?, Array.getD_eq_getD_getElem?, Array.getElem?_setIfInBounds]
  by_cases h : i = j
  · subst h; simp [hi]
  · rw [if_neg h, if_neg (fun e => h e.symm)]
theorem getD_set_self {listed : Array Bool} {i : Nat} (hi : i < listed.size) : (listed.setIfInBounds i true).getD i false = true := by rw [getD_set hi, if_pos rfl]
theorem getD_set_of {listed : Array Bool} {i j : Nat} (hi : i < listed.size) (h : listed.getD j false = true) : (listed.setIfInBounds i true).getD j false = true := by
  rw [getD_set hi]
  split
  · rfl
  · exact h
theorem getD_set_ne {listed : Array Bool} {i j : Nat} (hi : i < listed.size) (h : j ≠ i) : (listed.setIfInBounds i true).getD j false = listed.getD j false := by rw [getD_set hi, if_neg h]

theorem Evo.wide {s t : St} {S S' : Blk → Prop} {lo hi lo' hi' : Nat} (h : Evo s t S S' lo hi) (h1 : lo' ≤ lo) (h2 : hi ≤ hi') : Evo s t S S' lo' hi' :=
  ⟨h.os, h.out, h.size, h.keep, h.shape, h.froz, h.sg, fun n hn => by have := h.sgn n hn; omega, h.kk, h.kn, h.new⟩
theorem Evo.trans' {s t u : St} {S S' S'' : Blk → Prop} {lo hi : Nat} (h : Evo s t S S' lo hi) (k : Evo t u S' S'' lo hi) : Evo s u S S'' lo hi :=
  ⟨k.os.trans h.os, k.out.trans h.out, Nat.le_trans h.size k.size, fun r hr hS => by
    rw [k.keep r (Nat.lt_of_lt_of_le hr h.size) ?_, h.keep r hr hS]
    intro b hb hc
    obtain ⟨r', e1, e2⟩ := h.new b hb
    rw [e1] at hc
    cases hc
    rcases e2 with e2 | ⟨c, hc, e3⟩
    · omega
    · exact hS c hc e3, fun r c el fz x => by
    obtain ⟨c', h1, h2⟩ := h.shape r c el fz x
    obtain ⟨c'', h3, h4⟩ := k.shape r c' el fz h1
    exact ⟨c'', h3, h4.trans h2⟩, fun a => (k.froz a).trans (h.froz a), fun n r x => k.sg n r (h.sg n r x), fun n x => by
    by_cases e : t.sg n = s.sg n
    · exact k.sgn n (by rw [e]; exact x)
    · exact h.sgn n e, fun r x => k.kk r (h.kk r x), fun r x => by
    rcases k.kn r x with y | y
    · exact h.kn r y
    · exact .inr (Nat.le_trans h.size y), fun b hb => by
    obtain ⟨r, e1, e2⟩ := k.new b hb
    refine ⟨r, e1, ?_⟩
    rcases e2 with e2 | ⟨c, hc, e3⟩
    · exact .inl (Nat.le_trans h.size e2)
    · obtain ⟨r', e4, e5⟩ := h.new c hc
      rw [e3] at e4
      cases e4
      exact e5⟩

/-- blocks that an effect does not know of stay -/
theorem frame_ok {s s' : St} {A A' X : Blk → Prop} {lo hi : Nat} (R : RelS P hole s (fun b => A b ∨ X b)) (R' : RelS P hole s' A') (e : Evo s s' A A' lo hi) (hx : ∀ b, X b → ¬ A b) :
    RelS P hole s' (fun b => A' b ∨ X b) ∧ Evo s s' (fun b => A b ∨ X b) (fun b => A' b ∨ X b) lo hi ∧ Le s s' := by
  have hA : RelS P hole s A := R.sub fun b hb => .inl hb
  have hle := e.le hA
  have key : ∀ b, X b → ∀ r, s.sg b.nm = some r → s'.sg b.nm = some r ∧ r < s.w.heap.size ∧ s'.w.heap[r]? = s.w.heap[r]? := by
    intro b hb r hr
    obtain ⟨r', cells, e1, e2, _⟩ := R.blk b (.inr hb)
    rw [hr] at e1
    cases e1
    have hlt := lt_of_heap e2
    refine ⟨e.sg _ _ hr, hlt, e.keep r hlt fun c hc hcr => ?_⟩
    have := R.inj b c (.inr hb) (.inl hc) (by rw [hr, hcr])
    exact hx b hb (this ▸ hc)
  have cross : ∀ b c, A' b → X c → s'.sg b.nm = s'.sg c.nm → False := by
    intro b c hb hc he
    obtain ⟨r, cells, e1, _⟩ := R.blk c (.inr hc)
    obtain ⟨k1, k2, _⟩ := key c hc r e1
    obtain ⟨r', q1, q2⟩ := e.new b hb
    rw [k1, q1] at he
    cases he
    rcases q2 with q2 | ⟨d, hd, q3⟩
    · omega
    · have := R.inj c d (.inr hc) (.inl hd) (by rw [e1, q3])
      exact hx c hc (this ▸ hd)
  refine ⟨⟨?_, ?_, R'.kin⟩, ⟨e.os, e.out, e.size, fun r hr hS => e.keep r hr fun b hb => hS b (.inl hb), e.shape, e.froz, e.sg, e.sgn, e.kk, e.kn, ?_⟩, hle⟩
  · rintro b (hb | hb)
    · exact R'.blk b hb
    · obtain ⟨r, cells, e1, e2, e3, e4, e5⟩ := R.blk b (.inr hb)
      obtain ⟨k1, k2, k3⟩ := key b hb r e1
      refine ⟨r, cells, k1, by rw [k3]; exact e2, e3, fun hk => ?_, fun i hi => let ⟨v, q1, q2⟩ := e5 i hi; ⟨v, q1, q2.le hle⟩⟩
      rcases e.kn r hk with q | q
      · exact e4 q
      · omega
  · rintro b c (hb | hb) (hc | hc) he
    · exact R'.inj b c hb hc he
    · exact (cross b c hb hc he).elim
    · exact (cross c b hc hb he.symm).elim
    · obtain ⟨r, _, e1, _⟩ := R.blk b (.inr hb)
      obtain ⟨r', _, e2, _⟩ := R.blk c (.inr hc)
      rw [(key b hb r e1).1, (key c hc r' e2).1] at he
      exact R.inj b c (.inr hb) (.inr hc) (by rw [e1, e2]; exact he)
  · rintro b (hb | hb)
    · obtain ⟨r, q1, q2⟩ := e.new b hb
      exact ⟨r, q1, q2.elim .inl fun ⟨c, hc, q3⟩ => .inr ⟨c, .inl hc, q3⟩⟩
    · obtain ⟨r, _, e1, _⟩ := R.blk b (.inr hb)
      exact ⟨r, (key b hb r e1).1, .inr ⟨b, .inr hb, e1⟩⟩

section
variable {T : List Nat} {s0 s : St} {a0 a : Act} {listed : Array Bool} {i : Nat} {o : Oper}

theorem Inv.step (I : Inv P hole N ops f T s0 a0 listed a s) (hok : OkD P ops) (ho : ops[i]? = some o)
    (hr : ∀ e ∈ o.after, Region.binds .any e = true → listed.getD e.on false = true) {s' : St} {u : Value} (hle : Le s s') (hv : VT P hole s' T (f i).v u)
    (hmem : ∃ c, MemI P hole ops f s0 (listed.setIfInBounds i true) s' c) (hfr : ∀ (j : Nat) (o : Oper), ops[j]? = some o → j ≠ i → listed.getD j false = false → Fresh s'.sg (f j).m.nx (f j).o.nx) :
    Inv P hole N ops f T s0 a0 (listed.setIfInBounds i true) (a.put o.dst u) s' := by
  have hi : i < listed.size := by rw [I.sz]; exact lt_at ho
  refine ⟨by rw [Array.size_setIfInBounds]; exact I.sz, fun j oj hj hl e he hb => ?_, ?_, ?_, fun t ht => ?_, hmem, fun j oj hj hl => ?_⟩
  · by_cases hji : j = i
    · subst hji
      rw [ho] at hj
      cases hj
      exact getD_set_of hi (hr e he hb)
    · rw [getD_set_ne hi hji] at hl
      exact getD_set_of hi (I.cl j oj hj hl e he hb)
  · cases o.dst <;> simp [Act.put, I.tsz]
  · cases o.dst <;> exact I.df
  · obtain ⟨v, h1, h2, h3⟩ := I.tmp t ht
    by_cases hd : o.dst = some t
    · refine ⟨u, ?_, fun j oj hj hl hdj => ?_, fun hn => ?_⟩
      · rw [hd]
        simp [Act.put, I.tsz, ht]
      · have := hok.one i j o oj t ho hj hd hdj
        rw [← this]; exact hv
      · have := hn i o ho hd
        rw [getD_set_self hi] at this
        cases this
    · refine ⟨v, ?_, fun j oj hj hl hdj => ?_, fun hn => ?_⟩
      · cases hdst : o.dst with
        | none => exact h1
        | some d =>
          simp only [Act.put]
          rw [Array.getElem?_setIfInBounds_ne (fun e => hd (by rw [hdst, e]))]
          exact h1
      · by_cases hji : j = i
        · subst hji
          rw [ho] at hj
          cases hj
          exact absurd hdj hd
        · rw [getD_set_ne hi hji] at hl
          exact (h2 j oj hj hl hdj).le hle
      · refine (h3 fun j oj hj hdj => ?_).le hle
        have := hn j oj hj hdj
        by_cases hji : j = i
        · subst hji; rw [getD_set_self hi] at this; cases this
        · rw [getD_set_ne hi hji] at this; exact this
  · by_cases hji : j = i
    · subst hji; rw [getD_set_self hi] at hl; cases hl
    · rw [getD_set_ne hi hji] at hl
      exact hfr j oj hj hji hl

/-- nothing is made, nothing is written -/
theorem MemI.quiet {c : Nat} (M : MemI P hole ops f s0 listed s c) (hi : i < listed.size) (ho : ops[i]? = some o) (hk : kindD P o.op ≠ 3) (hn : ∀ b, ¬ NewB P ops f i b) : MemI P hole ops f s0 (listed.setIfInBounds i true) s c := by
  have hsd : ∀ b, SD P ops f c (listed.setIfInBounds i true) b ↔ SD P ops f c listed b := by
    intro b
    unfold SD
    constructor
    · rintro (h | ⟨j, h1, h2, h3⟩)
      · exact .inl h
      · refine .inr ⟨j, h1, ?_, h3⟩
        rw [getD_set_ne hi (fun e => hn b (e ▸ h3))] at h2
        exact h2
    · rintro (h | ⟨j, h1, h2, h3⟩)
      · exact .inl h
      · exact .inr ⟨j, h1, getD_set_of hi h2, h3⟩
  refine ⟨M.le, fun j oj hj hkj => ?_, fun j oj hj hkj hjc => getD_set_of hi (M.new j oj hj hkj hjc), M.rel.congr hsd, M.evo.congr (fun _ => Iff.rfl) fun b hb => (hsd b).1 hb⟩
  rw [getD_set_ne hi (by rintro rfl; rw [ho] at hj; cases hj; exact hk hkj)]
  exact M.eff j oj hj hkj

/-- an effect that is ready: all that makes or writes ahead of it has been run -/
theorem eff_facts {c : Nat} (M : MemI P hole ops f s0 listed s c) (hok : OkD P ops) (hcl : ∀ (j : Nat) (o : Oper), ops[j]? = some o → listed.getD j false = true → ∀ e ∈ o.after, Region.binds .any e = true → listed.getD e.on false = true)
    (ho : ops[i]? = some o) (hu : listed.getD i false = false) (hr : ∀ e ∈ o.after, Region.binds .any e = true → listed.getD e.on false = true) (hk : kindD P o.op = 3) :
    c ≤ i ∧ (∀ (j : Nat) (o : Oper), ops[j]? = some o → j < i → 2 ≤ kindD P o.op → listed.getD j false = true) ∧ (∀ (j : Nat) (o : Oper), c ≤ j → j < i → ops[j]? = some o → kindD P o.op ≠ 3) := by
  have hci : c ≤ i := by
    rcases Nat.lt_or_ge i c with h | h
    · have := (M.eff i o ho hk).2 h
      rw [hu] at this; cases this
    · exact h
  have hall : ∀ (j : Nat) (o : Oper), ops[j]? = some o → j < i → 2 ≤ kindD P o.op → listed.getD j false = true := fun j oj hj hji hkj =>
    (anc_listed hok hcl i o ho hr j (hok.row i j o oj ho hj hk hji hkj)).2
  refine ⟨hci, hall, fun j oj hcj hji hj hkj => ?_⟩
  have := (M.eff j oj hj hkj).1 (hall j oj hj hji (by omega))
  omega
theorem eff_sd {c : Nat} (M : MemI P hole ops f s0 listed s c) (h : Tr P hole N ops f) (hok : OkD P ops) (hcl : ∀ (j : Nat) (o : Oper), ops[j]? = some o → listed.getD j false = true → ∀ e ∈ o.after, Region.binds .any e = true → listed.getD e.on false = true)
    (ho : ops[i]? = some o) (hu : listed.getD i false = false) (hr : ∀ e ∈ o.after, Region.binds .any e = true → listed.getD e.on false = true) (hk : kindD P o.op = 3) (b : Blk) :
    SD P ops f c listed b ↔ b ∈ (f i).m.hp ∨ ∃ j, i + 1 ≤ j ∧ listed.getD j false = true ∧ NewB P ops f j b := by
  obtain ⟨q1, q2, q3⟩ := eff_facts M hok hcl ho hu hr hk
  rw [hp_between h b q1 (by have := lt_at ho; omega) q3]
  unfold SD
  constructor
  · rintro (hb | ⟨j, h1, h2, h3⟩)
    · exact .inl (.inl hb)
    · rcases Nat.lt_or_ge j i with hj | hj
      · exact .inl (.inr ⟨j, h1, hj, h3⟩)
      · refine .inr ⟨j, ?_, h2, h3⟩
        rcases Nat.eq_or_lt_of_le hj with rfl | hj
        · rw [hu] at h2; cases h2
        · exact hj
  · rintro ((hb | ⟨j, h1, h2, h3⟩) | ⟨j, h1, h2, h3⟩)
    · exact .inl hb
    · obtain ⟨oj, hoj, hkj, _⟩ := h3
      exact .inr ⟨j, h1, q2 j oj hoj h2 (by omega), ⟨oj, hoj, hkj, by assumption⟩⟩
    · exact .inr ⟨j, by omega, h2, h3⟩
/-- behind an effect -/
theorem eff_mem {c : Nat} (M : MemI P hole ops f s0 listed s c) (h : Tr P hole N ops f) (hok : OkD P ops) (hi : i < listed.size) (hcl : ∀ (j : Nat) (o : Oper), ops[j]? = some o → listed.getD j false = true → ∀ e ∈ o.after, Region.binds .any e = true → listed.getD e.on false = true)
    (ho : ops[i]? = some o) (hu : listed.getD i false = false) (hr : ∀ e ∈ o.after, Region.binds .any e = true → listed.getD e.on false = true) (hk : kindD P o.op = 3) {s' : St}
    (R' : RelS P hole s' (fun b => b ∈ (f i).o.hp ∨ ∃ j, i + 1 ≤ j ∧ listed.getD j false = true ∧ NewB P ops f j b))
    (E' : Evo s0 s' (· ∈ (f 0).m.hp) (fun b => b ∈ (f i).o.hp ∨ ∃ j, i + 1 ≤ j ∧ listed.getD j false = true ∧ NewB P ops f j b) (f 0).m.nx (f ops.size).m.nx) :
    MemI P hole ops f s0 (listed.setIfInBounds i true) s' (i + 1) := by
  obtain ⟨q1, q2, q3⟩ := eff_facts M hok hcl ho hu hr hk
  have hsd : ∀ b, SD P ops f (i + 1) (listed.setIfInBounds i true) b ↔ b ∈ (f i).o.hp ∨ ∃ j, i + 1 ≤ j ∧ listed.getD j false = true ∧ NewB P ops f j b := by
    intro b
    unfold SD
    rw [(tr_step h ho).2.1]
    constructor
    · rintro (hb | ⟨j, h1, h2, h3⟩)
      · exact .inl hb
      · rw [getD_set_ne hi (by omega)] at h2
        exact .inr ⟨j, h1, h2, h3⟩
    · rintro (hb | ⟨j, h1, h2, h3⟩)
      · exact .inl hb
      · exact .inr ⟨j, h1, getD_set_of hi h2, h3⟩
  refine ⟨by have := lt_at ho; omega, fun j oj hj hkj => ?_, fun j oj hj hkj hji => ?_, R'.congr hsd, E'.congr (fun _ => Iff.rfl) fun b hb => (hsd b).1 hb⟩
  · by_cases hji : j = i
    · subst hji; rw [getD_set_self hi]; simp
    · rw [getD_set_ne hi hji]
      constructor
      · intro hl
        have := (M.eff j oj hj hkj).1 hl
        omega
      · intro hl
        exact q2 j oj hj (by omega) (by omega)
  · have hne : j ≠ i := by rintro rfl; rw [ho] at hj; cases hj; omega
    exact getD_set_of hi (q2 j oj hj (by omega) (by omega))
end
end
end Go.Proofs.YgvaqwGreat.Ev
