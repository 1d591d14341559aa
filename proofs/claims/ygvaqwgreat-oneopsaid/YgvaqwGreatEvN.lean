/- The evaluator's operations that write memory, against the model's. -/
import Derived.Test.YgvaqwGreatEvM
set_option exponentiation.threshold 400
namespace Go.Proofs.YgvaqwGreat.Ev
open Go
section
variable {P : Program} {hole : Nat}

theorem RelS.congr {s : St} {S S' : Blk → Prop} (R : RelS P hole s S) (h : ∀ b, S' b ↔ S b) : RelS P hole s S' := R.sub fun b hb => (h b).1 hb
theorem Evo.congr {s t : St} {S S' Q Q' : Blk → Prop} {lo hi : Nat} (h : Evo s t S S' lo hi) (h1 : ∀ b, Q b ↔ S b) (h2 : ∀ b, Q' b → S' b) : Evo s t Q Q' lo hi :=
  ⟨h.os, h.out, h.size, fun r hr hq => h.keep r hr fun b hb => hq b ((h1 b).2 hb), h.shape, h.froz, h.sg, h.sgn, h.kk, h.kn, fun b hb => by
    obtain ⟨r, e1, e2⟩ := h.new b (h2 b hb)
    exact ⟨r, e1, e2.elim .inl fun ⟨c, hc, e3⟩ => .inr ⟨c, (h1 c).2 hc, e3⟩⟩⟩

theorem frozen_setRow (w : World) (g : Nat) (cs : Array Value) (a : Addr) : (w.setRow g cs).frozen? a = w.frozen? a := by
  simp only [World.setRow, World.frozen?, Array.getElem?_modify]
  by_cases hb : g = a.block
  · simp only [hb, if_true]
    cases w.heap[a.block]? with
    | none => simp
    | some x => cases x <;> simp
  · simp [hb]

/-- a block is written; it may take a new name -/
theorem RelS.set {s : St} {S : Blk → Prop} (R : RelS P hole s S) {b b' : Blk} (hb : S b) {r : Nat} {cells cells' : Array Value} (hr : s.sg b.nm = some r)
    (hc : s.w.heap[r]? = some (.cells cells b.el (0, 0))) (hsz : cells'.size = cells.size) (hel : b'.el = b.el) (hn : b'.n ≤ cells.size)
    (hv : ∀ i, i < b'.n → ∃ v, cells'[i]? = some v ∧ VR P hole s (pg b'.c i) v) {sg' : Nat → Option Nat} {lo hi : Nat}
    (h1 : ∀ n q, s.sg n = some q → sg' n = some q) (h2 : sg' b'.nm = some r) (h3 : ∀ n, sg' n ≠ s.sg n → lo ≤ n ∧ n < hi) {t : St} (ht : t = ⟨sg', s.K, s.w.setRow r cells'⟩) :
    RelS P hole t (fun d => d = b' ∨ (S d ∧ d ≠ b)) ∧ Evo s t S (fun d => d = b' ∨ (S d ∧ d ≠ b)) lo hi ∧ Le s t := by
  subst ht
  obtain ⟨r0, cells0, e1, e2, _, e4, _⟩ := R.blk b hb
  rw [hr] at e1
  cases e1
  have hne : ∀ d, S d → d ≠ b → s.sg d.nm ≠ some r := fun d hd hdb e => hdb (R.inj d b hd hb (by rw [e, hr]))
  have hother : ∀ q, q ≠ r → (s.w.setRow r cells').heap[q]? = s.w.heap[q]? := fun q hq => setRow_other _ _ _ _ hq
  have hsame := setRow_heap s.w r cells cells' b.el (0, 0) hc
  have hshape : ∀ (q : Nat) (c : Array Value) (el : TypeId) (fz : Nat × Nat), s.w.heap[q]? = some (.cells c el fz) → ∃ c' : Array Value, (s.w.setRow r cells').heap[q]? = some (.cells c' el fz) ∧ c'.size = c.size := by
    intro q c el fz h
    by_cases hq : q = r
    · subst hq
      rw [hc] at h
      cases h
      exact ⟨cells', hsame, hsz⟩
    · exact ⟨c, by rw [hother q hq]; exact h, rfl⟩
  have hle : Le s ⟨sg', s.K, s.w.setRow r cells'⟩ := ⟨h1, fun _ h => h, fun q hq => hother q (fun e => e4 (e ▸ hq)), hshape⟩
  refine ⟨⟨?_, ?_, fun q hq => by show q < (s.w.setRow r cells').heap.size; rw [setRow_size]; exact R.kin q hq⟩, ⟨rfl, rfl, by show _ ≤ (s.w.setRow r cells').heap.size; rw [setRow_size]; exact Nat.le_refl _, fun q _ hS => hother q ?_, hshape,
    frozen_setRow _ _ _, h1, h3, fun _ h => h, fun _ h => .inl h, ?_⟩, hle⟩
  · rintro d (rfl | ⟨hd, hdb⟩)
    · exact ⟨r, cells', h2, by rw [hel]; exact hsame, by omega, e4, fun i hi => let ⟨v, f1, f2⟩ := hv i hi; ⟨v, f1, f2.le hle⟩⟩
    · obtain ⟨q, cs, f1, f2, f3, f4, f5⟩ := R.blk d hd
      have hq : q ≠ r := fun e => hne d hd hdb (e ▸ f1)
      exact ⟨q, cs, h1 _ _ f1, by show (s.w.setRow r cells').heap[q]? = _; rw [hother q hq]; exact f2, f3, f4, fun i hi => let ⟨v, f6, f7⟩ := f5 i hi; ⟨v, f6, f7.le hle⟩⟩
  · have key : ∀ d, S d → d ≠ b → sg' d.nm ≠ some r := by
      intro d hd hdb e
      obtain ⟨q, _, f1, _⟩ := R.blk d hd
      rw [h1 _ _ f1] at e
      cases e
      exact hne d hd hdb f1
    rintro d d' (rfl | ⟨hd, hdb⟩) (rfl | ⟨hd', hdb'⟩) e
    · rfl
    · exact absurd (e.symm.trans h2) (key d' hd' hdb')
    · exact absurd (e.trans h2) (key d hd hdb)
    · obtain ⟨q, _, f1, _⟩ := R.blk d hd
      obtain ⟨q', _, f2, _⟩ := R.blk d' hd'
      have e : sg' d.nm = sg' d'.nm := e
      rw [h1 _ _ f1, h1 _ _ f2] at e
      exact R.inj d d' hd hd' (by rw [f1, f2]; exact e)
  · intro e
    exact hS b hb (by rw [hr, e])
  · rintro d (rfl | ⟨hd, _⟩)
    · exact ⟨r, h2, .inr ⟨b, hb, hr⟩⟩
    · obtain ⟨q, _, f1, _⟩ := R.blk d hd
      exact ⟨q, h1 _ _ f1, .inr ⟨d, hd, f1⟩⟩

def Fresh (sg : Nat → Option Nat) (lo hi : Nat) : Prop := ∀ n, lo ≤ n → n < hi → sg n = none

/-- an operation that may write -/
def KEff (P : Program) (hole N : Nat) (F : OpF) (f : Act → Sem Value) : Prop :=
  ∀ call E m k x, MOK m → F.fn call E m k = some x → ∃ v m', k v m' = some x ∧ MStep m m' ∧ v < cB ∧
    ∀ (T : List Nat) (s : St) (a : Act), Suf m'.ag T → Env P hole N s T E a → Rel P hole s m → Fresh s.sg m.nx m'.nx →
      ∃ v' s', (f a).run P s.w = .ok v' s'.w ∧ Rel P hole s' m' ∧ VT P hole s' T v v' ∧ Evo s s' (· ∈ m.hp) (· ∈ m'.hp) m.nx m'.nx

theorem row_get (cells : Array Value) (vs : List Value) (o : Nat) (h : o + vs.length ≤ cells.size) :
    ((cells.toList.take o ++ vs ++ cells.toList.drop (o + vs.length)).toArray).size = cells.size ∧
    ∀ j, ((cells.toList.take o ++ vs ++ cells.toList.drop (o + vs.length)).toArray)[j]? = if o ≤ j ∧ j < o + vs.length then vs[j - o]? else cells[j]? := by
  refine ⟨by simp; omega, fun j => ?_⟩
  rw [List.getElem?_toArray, List.getElem?_append, List.getElem?_append]
  have hl : (cells.toList.take o).length = o := by simp; omega
  rw [hl]
  simp only [List.length_append, hl]
  by_cases h1 : j < o
  · rw [if_pos (by omega), if_pos h1, if_neg (by omega), List.getElem?_take, if_pos h1]
    simp
  · by_cases h2 : j < o + vs.length
    · rw [if_pos h2, if_neg h1, if_pos (by omega)]
    · rw [if_neg h2, if_neg (by omega), List.getElem?_drop, show o + vs.length + (j - (o + vs.length)) = j by omega]
      simp

/-- writing k cells at an offset of a block that is there -/
theorem write_ok {m : Mem} {b : Blk} {c' off k p : Nat} {s : St} (R : Rel P hole s m) (hb : b ∈ m.hp) (hoff : off + k ≤ b.n) (hp : p < 2 ^ (320 * k)) (hc' : c' = rp b.c off k p)
    {vs : List Value} (hvs : vs.length = k) (hv : ∀ j, j < k → ∃ u, vs[j]? = some u ∧ VR P hole s (pg p j) u) :
    ∃ r cells t, s.sg b.nm = some r ∧ s.w.heap[r]? = some (.cells cells b.el (0, 0)) ∧ off + k ≤ cells.size ∧ t.w = s.w.setRow r (cells.toList.take off ++ vs ++ cells.toList.drop (off + vs.length)).toArray ∧
      t.sg = s.sg ∧ RelS P hole t (fun d => d = ⟨b.nm, b.n, c', b.el, salt b.kd⟩ ∨ (d ∈ m.hp ∧ d ≠ b)) ∧ Evo s t (· ∈ m.hp) (fun d => d = ⟨b.nm, b.n, c', b.el, salt b.kd⟩ ∨ (d ∈ m.hp ∧ d ≠ b)) m.nx m.nx ∧ Le s t := by
  obtain ⟨r, cells, e1, e2, e3, e4, e5⟩ := R.blk b hb
  have hrow := row_get cells vs off (by omega)
  refine ⟨r, cells, ⟨s.sg, s.K, s.w.setRow r (cells.toList.take off ++ vs ++ cells.toList.drop (off + vs.length)).toArray⟩, e1, e2, by omega, rfl, rfl, ?_⟩
  refine RelS.set R (b' := ⟨b.nm, b.n, c', b.el, salt b.kd⟩) hb e1 e2 hrow.1 rfl e3 (fun i hi => ?_) (fun _ _ h => h) e1 (fun _ h => (h rfl).elim) rfl
  rw [hrow.2 i]
  simp only [hc']
  rw [pg_rp hp, hvs]
  by_cases hio : off ≤ i ∧ i < off + k
  · rw [if_pos hio, if_pos hio]
    exact hv (i - off) (by omega)
  · rw [if_neg hio, if_neg hio]
    exact e5 i hi

theorem VR.list_one {s : St} {vs : List Value} {k p : Nat} (hvs : vs.length = k) (hv : ∀ j, j < k → ∃ u, vs[j]? = some u ∧ VR P hole s (pg p j) u) : ∀ v ∈ vs, v.oneCell' = true := by
  intro v hv'
  obtain ⟨j, hj, rfl⟩ := List.mem_iff_getElem.1 hv'
  obtain ⟨u, h1, h2⟩ := hv j (by omega)
  rw [List.getElem?_eq_getElem hj] at h1
  cases h1
  exact h2.one

theorem store_ok {t : TypeId} {N w : Nat} {i : TypeInfo} (hi : P.info? t = some i) (hsz : i.size = w) (y y' : Operand) (g : Nat → Nat → Mem → KV → R)
    (hg : ∀ e v m k x, v < cB → MOK m → g e v m k = some x → ∃ b m1 p, e % 32 = 10 ∧ b ∈ m.hp ∧ b.nm = nmOf e ∧ RStep m m1 ∧ m1.ag = m.ag ∧ (∃ r, m1.hp = b :: r) ∧ offP e + w ≤ b.n ∧
      setB b (rp b.c (offP e) w p) m1 0 k = some x ∧ ∀ (T : List Nat) (s : St) u, Suf m.ag T → VT P hole s T v u → p < 2 ^ (320 * w) ∧ u.cells.size = w ∧ ∀ j, j < w → ∃ v, u.cells[j]? = some v ∧ VR P hole s (pg p j) v) :
    KEff P hole N (bop (sel N y) (sel N y') g) (fun a => do Instr.storeAt t (a.eval y) (a.eval y'); pure undef) := by
  intro call E m k x hm hx
  obtain ⟨b, m1, p, h1, h2, h3, h4, h4a, h5, h6, h7, h8⟩ := hg _ _ m k x (sel_lt N y' E) hm hx
  obtain ⟨m', h9, h10, h11, h12, h13⟩ := setB_ok h7 (h4.ok hm) h5
  refine ⟨0, m', h9, (h4.step hm).trans h10, lt_cB (by decide +kernel), fun T s a hT ha R _ => ?_⟩
  have hT' : Suf m.ag T := by rw [h12, h4a] at hT; exact hT
  obtain ⟨e1, e2, e3⟩ := h8 T s _ hT' (ha y')
  obtain ⟨r, e4, e5⟩ := VT.ptr (ha y) h1
  have R1 : Rel P hole s m1 := R.congr h4.mem
  obtain ⟨r', cells, t', f1, f2, f3, f4, f5, f6, f7, f8⟩ := write_ok R1 ((h4.mem b).2 h2) h6 e1 rfl (vs := (a.eval y').cells.toList) (by simpa using e2) (fun j hj => by simpa using e3 j hj)
  rw [h3, e4] at f1
  cases f1
  refine ⟨undef, t', ?_, f6.congr h13, VT.top rfl, ?_⟩
  · show (do Instr.storeAt t (a.eval y) (a.eval y'); pure undef : Sem Value).run P s.w = _
    rw [e5]
    have hst := run_storeCells_at P r (offP ((sel N y).fn E)) b.el (a.eval y').cells.toList 0 cells s.w f2 (by simp [e2]; omega) (VR.list_one (k := w) (by simpa using e2) (fun j hj => by simpa using e3 j hj))
    simp only [Nat.add_zero] at hst
    rw [f4]
    simp only [Instr.storeAt, Instr.sureAddr, storeVar, Sem.run_bind, Sem.run_pure, Result.andThen_ok, run_sizeOf hi, hsz, e2, ne_eq, not_true, if_false, hst]
  · rw [h11, h4.nx]
    have := f7.congr (Q := (· ∈ m.hp)) (Q' := (· ∈ m'.hp)) (fun c => (h4.mem c).symm) (fun d hd => (h13 d).1 hd)
    rw [h4.nx] at this
    exact this
theorem st0_ok {t : TypeId} {N : Nat} (hc : cl P t = some 1) (y y' : Operand) : KEff P hole N (bop (sel N y) (sel N y') st0) (fun a => do Instr.storeAt t (a.eval y) (a.eval y'); pure undef) := by
  obtain ⟨_, i, hi, hsz⟩ := cl_ok hc
  refine store_ok hi hsz y y' st0 fun e v m k x hv hm h => ?_
  obtain ⟨h1, h⟩ := chk_ok h
  obtain ⟨h2, h3, h⟩ := chkC_ok h
  obtain ⟨b, m1, h4, h5, h6, h7, h8, h9⟩ := atB_ok h hm
  obtain ⟨h10, h11⟩ := bc h6
  have h10 : offP e + 1 ≤ b.n := ble_t h10
  refine ⟨b, m1, v, h1, h4, h5, h7, h8, h9, h10, by rw [← ps_rp]; exact h11, fun T s u hT hu => ?_⟩
  have y : VR P hole s v u := VR.of_VT h2 h3 hu
  rw [cells_one y.one]
  refine ⟨by rw [cB_eq] at hv; simpa using hv, rfl, fun j hj => ?_⟩
  obtain rfl : j = 0 := by omega
  refine ⟨u, rfl, ?_⟩
  have : pg v 0 = v := by have := pg_cons_zero (a := v) (r := 0) hv; simpa using this
  rw [this]; exact y
theorem stA_ok {t : TypeId} {N w : Nat} (hs : sz P t = some (w + 1)) (y y' : Operand) : KEff P hole N (bop (sel N y) (sel N y') (stA w)) (fun a => do Instr.storeAt t (a.eval y) (a.eval y'); pure undef) := by
  obtain ⟨d, i, hd, hi, hdi⟩ := sz_ok hs
  have hsz : i.size = w := by rcases hdi with ⟨_, h⟩ | ⟨_, h⟩ <;> omega
  refine store_ok hi hsz y y' (stA w) fun e v m k x hv hm h => ?_
  obtain ⟨h1, h⟩ := chk_ok h
  obtain ⟨p, h, h2, h3⟩ := aggK_ok (P := P) (hole := hole) h hm
  obtain ⟨h4, h⟩ := bc h
  obtain ⟨b, m1, h5, h6, h7, h8, h9, h10⟩ := atB_ok h hm
  obtain ⟨h11, h12⟩ := bc h7
  have h4 : v / 137438953472 = w := beq_t h4
  refine ⟨b, m1, p, h1, h5, h6, h8, h9, h10, ble_t h11, h12, fun T s u hT hu => ?_⟩
  obtain ⟨e1, cs, rfl, e2, e3⟩ := h3 T s u hT hu
  rw [h4] at e1 e2 e3
  exact ⟨e1, e2, e3⟩
end
end Go.Proofs.YgvaqwGreat.Ev
