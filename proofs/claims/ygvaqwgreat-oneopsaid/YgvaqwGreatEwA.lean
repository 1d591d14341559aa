/- Regions that draw their order: the run by the index against a run in whichever order. -/
import Derived.Test.YgvaqwGreatEvW
set_option exponentiation.threshold 400
namespace Go.Proofs.YgvaqwGreat.Ev
open Go
section
variable {P : Program} {hole N : Nat} {ops : Array Oper} {f : Nat → Rec}

abbrev Tr (P : Program) (hole N : Nat) (ops : Array Oper) (f : Nat → Rec) : Prop := ∀ (j : Nat) (o : Oper), ops[j]? = some o → StepD P hole N ops o (f j) (f (j + 1))
theorem at_lt {i : Nat} (h : i < ops.size) : ∃ o, ops[i]? = some o := ⟨ops[i], Array.getElem?_eq_getElem h⟩
theorem lt_at {i : Nat} {o : Oper} (h : ops[i]? = some o) : i < ops.size := (Array.getElem?_eq_some_iff.1 h).1

theorem tr_step (h : Tr P hole N ops f) {j : Nat} {o : Oper} (ho : ops[j]? = some o) : MStep (f j).m (f j).o ∧ (f (j + 1)).m.hp = (f j).o.hp ∧ (f (j + 1)).m.nx = (f j).o.nx ∧ (f (j + 1)).m.ag = (f j).o.ag ∧ (f (j + 1)).m.wb = (f j).o.wb := by
  have hs := h j o ho
  refine ⟨?_, ?_⟩
  · cases ht : (f j).tk
    · rw [(hs.no ht).2]; exact MStep.refl hs.ok
    · exact (hs.yes ht).ok hs.ok
  · rw [hs.next]
    split <;> exact ⟨rfl, rfl, rfl, rfl⟩
theorem tr_mono (h : Tr P hole N ops f) {i : Nat} : ∀ {k : Nat}, i ≤ k → k ≤ ops.size → (f i).m.nx ≤ (f k).m.nx ∧ Suf (f i).m.ag (f k).m.ag ∧ (f k).m.wb = (f i).m.wb := by
  intro k
  induction k with
  | zero => intro h1 _; obtain rfl : i = 0 := by omega
            exact ⟨Nat.le_refl _, Suf.refl _, rfl⟩
  | succ k ih =>
    intro h1 h2
    by_cases hik : i = k + 1
    · subst hik; exact ⟨Nat.le_refl _, Suf.refl _, rfl⟩
    · obtain ⟨o, ho⟩ := at_lt (show k < ops.size by omega)
      obtain ⟨q1, q2, q3, q4, q5⟩ := tr_step h ho
      obtain ⟨r1, r2, r3⟩ := ih (by omega) (by omega)
      exact ⟨by rw [q3]; exact Nat.le_trans r1 q1.nx, by rw [q4]; exact r2.trans q1.ag, by rw [q5, q1.wb, r3]⟩

/-- the block that an operation makes -/
def NewB (P : Program) (ops : Array Oper) (f : Nat → Rec) (j : Nat) (b : Blk) : Prop := ∃ o, ops[j]? = some o ∧ kindD P o.op = 2 ∧ (f j).tk = true ∧ b ∈ (f j).o.hp ∧ b.nm = (f j).m.nx
theorem NewB.lt {j : Nat} {b : Blk} (h : NewB P ops f j b) : j < ops.size := let ⟨_, ho, _⟩ := h; lt_at ho
theorem mem_step (h : Tr P hole N ops f) {j : Nat} {o : Oper} (ho : ops[j]? = some o) (hk : kindD P o.op ≠ 3 ∨ (f j).tk = false) (b : Blk) : b ∈ (f (j + 1)).m.hp ↔ b ∈ (f j).m.hp ∨ NewB P ops f j b := by
  have hs := h j o ho
  rw [(tr_step h ho).2.1]
  cases ht : (f j).tk
  · rw [(hs.no ht).2]
    exact ⟨.inl, fun q => q.elim id fun ⟨_, _, _, q, _⟩ => by rw [ht] at q; cases q⟩
  · have hk : kindD P o.op ≠ 3 := by
      rcases hk with hk | hk
      · exact hk
      · rw [ht] at hk; cases hk
    have nonew : kindD P o.op ≠ 2 → ¬ NewB P ops f j b := fun hne ⟨o', ho', q, _⟩ => by rw [ho] at ho'; cases ho'; exact hne q
    rcases (hs.yes ht).2 with ⟨q, q1, _⟩ | ⟨q, q1, _⟩ | ⟨q, b0, q1, q2, q3, q4, q5, q6, _⟩ | ⟨q, _⟩
    · rw [q1.hp]
      exact ⟨.inl, fun q' => q'.elim id fun q' => absurd q' (nonew (by omega))⟩
    · rw [q1.mem]
      exact ⟨.inl, fun q' => q'.elim id fun q' => absurd q' (nonew (by omega))⟩
    · rw [q2, List.mem_cons]
      constructor
      · rintro (rfl | hb)
        · exact .inr ⟨o, ho, q, ht, by rw [q2]; exact List.mem_cons_self, q3⟩
        · exact .inl hb
      · rintro (hb | ⟨_, _, _, _, hb, hnm⟩)
        · exact .inr hb
        · rw [q2, List.mem_cons] at hb
          exact hb
    · exact absurd q hk

theorem hp_between (h : Tr P hole N ops f) {c : Nat} (b : Blk) : ∀ {i : Nat}, c ≤ i → i ≤ ops.size → (∀ (j : Nat) (o : Oper), c ≤ j → j < i → ops[j]? = some o → kindD P o.op ≠ 3) →
    (b ∈ (f i).m.hp ↔ b ∈ (f c).m.hp ∨ ∃ j, c ≤ j ∧ j < i ∧ NewB P ops f j b) := by
  intro i
  induction i with
  | zero =>
    intro h1 _ _
    obtain rfl : c = 0 := by omega
    exact ⟨.inl, fun q => q.elim id fun ⟨j, _, q, _⟩ => by omega⟩
  | succ i ih =>
    intro h1 h2 h3
    by_cases hic : c = i + 1
    · subst hic
      exact ⟨.inl, fun q => q.elim id fun ⟨j, _, q, _⟩ => by omega⟩
    · obtain ⟨o, ho⟩ := at_lt (show i < ops.size by omega)
      rw [mem_step h ho (.inl (h3 i o (by omega) (by omega) ho)) b, ih (by omega) (by omega) fun j o q1 q2 => h3 j o q1 (by omega)]
      constructor
      · rintro ((hb | ⟨j, q1, q2, q3⟩) | hb)
        · exact .inl hb
        · exact .inr ⟨j, q1, by omega, q3⟩
        · exact .inr ⟨i, by omega, by omega, hb⟩
      · rintro (hb | ⟨j, q1, q2, q3⟩)
        · exact .inl (.inl hb)
        · by_cases hj : j = i
          · subst hj; exact .inr q3
          · exact .inl (.inr ⟨j, q1, by omega, q3⟩)

/-- a block from ahead of the region stays, where no effect between tells of it -/
theorem mem_pres (h : Tr P hole N ops f) (hwb : (f 0).m.wb = (f 0).m.nx) (b : Blk) (hb : b.nm < (f 0).m.nx) {i : Nat} : ∀ {k : Nat}, i ≤ k → k ≤ ops.size →
    (∀ (j : Nat) (o : Oper), i ≤ j → j < k → ops[j]? = some o → kindD P o.op = 3 → b.nm ∉ (f j).o.wl) → (b ∈ (f i).m.hp ↔ b ∈ (f k).m.hp) := by
  intro k
  induction k with
  | zero => intro h1 _ _; obtain rfl : i = 0 := by omega
            exact Iff.rfl
  | succ k ih =>
    intro h1 h2 h3
    by_cases hik : i = k + 1
    · subst hik; exact Iff.rfl
    · obtain ⟨o, ho⟩ := at_lt (show k < ops.size by omega)
      refine (ih (by omega) (by omega) fun j o q1 q2 => h3 j o q1 (by omega)).trans ?_
      have hm := tr_mono h (Nat.zero_le k) (show k ≤ ops.size by omega)
      by_cases hk : kindD P o.op = 3
      · obtain ⟨q1, q2, _⟩ := tr_step h ho
        obtain ⟨l, e1, e2⟩ := q1.log
        rw [(h k o ho).wl, List.append_nil] at e1
        rw [q2]
        exact e2 b (by rw [hm.2.2, hwb]; exact hb) (by rw [← e1]; exact h3 k o (by omega) (by omega) ho hk)
      · rw [mem_step h ho (.inl hk) b]
        exact ⟨.inl, fun q => q.elim id fun ⟨_, _, _, _, _, q⟩ => by omega⟩

/-! ### temporaries -/
theorem E_keep (h : Tr P hole N ops f) {t : Nat} (ht : t < N) {i : Nat} : ∀ {k : Nat}, i ≤ k → k ≤ ops.size → (∀ (j : Nat) (o : Oper), i ≤ j → j < k → ops[j]? = some o → o.dst ≠ some t) → tg (f k).E t = tg (f i).E t := by
  intro k
  induction k with
  | zero => intro h1 _ _; obtain rfl : i = 0 := by omega
            rfl
  | succ k ih =>
    intro h1 h2 h3
    by_cases hik : i = k + 1
    · subst hik; rfl
    · obtain ⟨o, ho⟩ := at_lt (show k < ops.size by omega)
      rw [(h k o ho).put t ht, if_neg (h3 k o (by omega) (by omega) ho)]
      exact ih (by omega) (by omega) fun j o q1 q2 => h3 j o q1 (by omega)
theorem E_after (h : Tr P hole N ops f) (hok : OkD P ops) {t j k : Nat} {o : Oper} (ho : ops[j]? = some o) (hd : o.dst = some t) (hjk : j < k) (hk : k ≤ ops.size) : tg (f k).E t = (f j).v := by
  have ht := (h j o ho).dst t hd
  rw [E_keep h ht (show j + 1 ≤ k by omega) hk fun i o' q1 q2 ho' hd' => by have := hok.one j i o o' t ho ho' hd hd'; omega]
  rw [(h j o ho).put t ht, if_pos hd]

/-! ### the invariant -/
def SD (P : Program) (ops : Array Oper) (f : Nat → Rec) (c : Nat) (listed : Array Bool) (b : Blk) : Prop := b ∈ (f c).m.hp ∨ ∃ j, c ≤ j ∧ listed.getD j false = true ∧ NewB P ops f j b
structure MemI (P : Program) (hole : Nat) (ops : Array Oper) (f : Nat → Rec) (s0 : St) (listed : Array Bool) (s : St) (c : Nat) : Prop where
  le : c ≤ ops.size
  eff : ∀ (j : Nat) (o : Oper), ops[j]? = some o → kindD P o.op = 3 → (listed.getD j false = true ↔ j < c)
  new : ∀ (j : Nat) (o : Oper), ops[j]? = some o → kindD P o.op = 2 → j < c → listed.getD j false = true
  rel : RelS P hole s (SD P ops f c listed)
  evo : Evo s0 s (· ∈ (f 0).m.hp) (SD P ops f c listed) (f 0).m.nx (f ops.size).m.nx
structure Inv (P : Program) (hole N : Nat) (ops : Array Oper) (f : Nat → Rec) (T : List Nat) (s0 : St) (a0 : Act) (listed : Array Bool) (a : Act) (s : St) : Prop where
  sz : listed.size = ops.size
  cl : ∀ (j : Nat) (o : Oper), ops[j]? = some o → listed.getD j false = true → ∀ e ∈ o.after, Region.binds .any e = true → listed.getD e.on false = true
  tsz : a.tmps.size = N
  df : a.defers = a0.defers
  tmp : ∀ t, t < N → ∃ v, a.tmps[t]? = some v ∧ (∀ (j : Nat) (o : Oper), ops[j]? = some o → listed.getD j false = true → o.dst = some t → VT P hole s T (f j).v v) ∧
    ((∀ (j : Nat) (o : Oper), ops[j]? = some o → o.dst = some t → listed.getD j false = false) → VT P hole s T (tg (f 0).E t) v)
  mem : ∃ c, MemI P hole ops f s0 listed s c
  fr : ∀ (j : Nat) (o : Oper), ops[j]? = some o → listed.getD j false = false → Fresh s.sg (f j).m.nx (f j).o.nx

/-- what stands before one that is ready has been run -/
theorem anc_listed (hok : OkD P ops) {listed : Array Bool} (hcl : ∀ (j : Nat) (o : Oper), ops[j]? = some o → listed.getD j false = true → ∀ e ∈ o.after, Region.binds .any e = true → listed.getD e.on false = true) :
    ∀ (i : Nat) (o : Oper), ops[i]? = some o → (∀ e ∈ o.after, Region.binds .any e = true → listed.getD e.on false = true) → ∀ j, ancB (masks ops.toList []) j i = true → j < i ∧ listed.getD j false = true := by
  intro i
  induction i using Nat.strongRecOn with
  | ind i ih =>
    intro o ho hr j hj
    rw [anc_edge (ops := ops.toList) (by simpa using ho) (hok.back i o ho)] at hj
    obtain ⟨e, q1, q2, q3⟩ := hj
    have hlt := hok.back i o ho e q1 q2
    have hle := hr e q1 q2
    rcases q3 with rfl | q3
    · exact ⟨hlt, hle⟩
    · obtain ⟨oe, hoe⟩ := at_lt (ops := ops) (show e.on < ops.size by have := lt_at ho; omega)
      have := ih e.on hlt oe hoe (hcl e.on oe hoe hle) j q3
      exact ⟨by omega, this.2⟩

/-- the temporaries that one that is ready looks at hold what they held in the run by the index -/
theorem Inv.look {T : List Nat} {s0 s : St} {a0 a : Act} {listed : Array Bool} (I : Inv P hole N ops f T s0 a0 listed a s) (h : Tr P hole N ops f) (hok : OkD P ops) {i : Nat} {o : Oper} (ho : ops[i]? = some o)
    (hu : listed.getD i false = false) (hr : ∀ e ∈ o.after, Region.binds .any e = true → listed.getD e.on false = true) {t : Nat} (ht : t < N) (hl : t ∈ o.looksAt ops) : ∃ v, a.tmps[t]? = some v ∧ VT P hole s T (tg (f i).E t) v := by
  obtain ⟨v, h1, h2, h3⟩ := I.tmp t ht
  refine ⟨v, h1, ?_⟩
  have hi := lt_at ho
  by_cases hw : ∃ (j : Nat) (o' : Oper), ops[j]? = some o' ∧ o'.dst = some t
  · obtain ⟨j, o', ho', hd⟩ := hw
    obtain ⟨hne, hord⟩ := hok.look j i o' o t ho' ho hd hl
    rcases hord with q | q
    · obtain ⟨hji, hjl⟩ := anc_listed hok I.cl i o ho hr j q
      rw [E_after h hok ho' hd hji (by omega)]
      exact h2 j o' ho' hjl hd
    · have hnl : listed.getD j false = false := by
        cases hc : listed.getD j false
        · rfl
        · have := (anc_listed hok I.cl j o' ho' (I.cl j o' ho' hc) i q).2
          rw [hu] at this; cases this
      have hij : i < j := by
        have hback := hok.back
        -- an ancestor stands ahead
        have : ∀ (k : Nat) (ok : Oper), ops[k]? = some ok → ∀ l, ancB (masks ops.toList []) l k = true → l < k := by
          intro k
          induction k using Nat.strongRecOn with
          | ind k ih =>
            intro ok hok' l hl'
            rw [anc_edge (ops := ops.toList) (by simpa using hok') (hback k ok hok')] at hl'
            obtain ⟨e, q1, q2, q3⟩ := hl'
            have hlt := hback k ok hok' e q1 q2
            rcases q3 with rfl | q3
            · exact hlt
            · obtain ⟨oe, hoe⟩ := at_lt (ops := ops) (show e.on < ops.size by have := lt_at hok'; omega)
              have := ih e.on hlt oe hoe l q3
              omega
        exact this j o' ho' i q
      rw [E_keep h ht (Nat.zero_le i) (by omega) fun k ok q1 q2 hk hd' => by have := hok.one j k o' ok t ho' hk hd hd'; omega]
      refine h3 fun k ok hk hd' => ?_
      have := hok.one j k o' ok t ho' hk hd hd'
      rw [← this]; exact hnl
  · rw [E_keep h ht (Nat.zero_le i) (by omega) fun k ok q1 q2 hk hd' => hw ⟨k, ok, hk, hd'⟩]
    exact h3 fun k ok hk hd' => absurd ⟨k, ok, hk, hd'⟩ hw
end
end Go.Proofs.YgvaqwGreat.Ev
