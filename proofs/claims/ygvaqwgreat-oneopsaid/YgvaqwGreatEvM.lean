/- The evaluator's operations that make a block, against the model's. -/
import Derived.Test.YgvaqwGreatEvL
set_option exponentiation.threshold 400
namespace Go.Proofs.YgvaqwGreat.Ev
open Go
section
variable {P : Program} {hole : Nat}

theorem encV_VR {s : St} {v : Value} (h : encV v ≠ 0) : VR P hole s (encV v) v := by
  refine VR.of_VT (T := []) ?_ ?_ encV_ok
  all_goals
    unfold encV at *
    split
    · rename_i k n
      split
      · have h1 := ktag_lt k
        unfold encI
        split <;> omega
      · simp_all
    all_goals first | decide | simp_all
theorem packL_ok {s : St} : ∀ {l : List Value} {p : Nat}, packL l = some p → p < 2 ^ (320 * l.length) ∧ ∀ j, j < l.length → ∃ u, l[j]? = some u ∧ VR P hole s (pg p j) u := by
  intro l
  induction l with
  | nil =>
    intro p h
    simp only [packL, Option.some.injEq] at h
    subst h
    exact ⟨by simp, fun j hj => by simp at hj⟩
  | cons v r ih =>
    intro p h
    unfold packL at h
    split at h
    · cases h
    · rename_i e n he hn
      simp only [Option.some.injEq] at h
      subst h
      obtain ⟨h1, h2⟩ := ih hn
      have he : encV v = e + 1 := he
      have hlt : e + 1 < cB := by rw [← he]; exact encV_lt v
      refine ⟨cons_lt hlt h1, fun j hj => ?_⟩
      cases j with
      | zero =>
        refine ⟨v, rfl, ?_⟩
        rw [pg_cons_zero hlt, ← he]
        exact encV_VR (by omega)
      | succ j =>
        obtain ⟨u, h3, h4⟩ := h2 j (by simpa using hj)
        exact ⟨u, by simpa using h3, by rw [pg_cons_succ hlt]; exact h4⟩
    · cases h
theorem zeroP_ok {t : TypeId} {n z : Nat} (h : zeroP P t = some (n, z)) : ∃ i zv, P.info? t = some i ∧ i.zero = some zv ∧ zv.cells.size = n ∧ z < 2 ^ (320 * n) ∧
    ∀ (s : St) j, j < n → ∃ u, zv.cells[j]? = some u ∧ VR P hole s (pg z j) u := by
  unfold zeroP at h
  split at h
  · rename_i i hi
    split at h
    · rename_i zv hz
      split at h
      · rename_i p hp
        simp only [Option.some.injEq, Prod.mk.injEq] at h
        obtain ⟨rfl, rfl⟩ := h
        have key := fun s => packL_ok (P := P) (hole := hole) (s := s) hp
        refine ⟨i, zv, hi, hz, rfl, by simpa using (key ⟨fun _ => none, fun _ => False, default⟩).1, fun s j hj => ?_⟩
        obtain ⟨u, h1, h2⟩ := (key s).2 j (by simpa using hj)
        exact ⟨u, by simpa using h1, h2⟩
      · cases h
    · cases h
  · cases h

/-- an operation that makes one block -/
def KAlloc (P : Program) (hole N : Nat) (F : OpF) (f : Act → Sem Value) : Prop :=
  ∀ call E m k x, MOK m → F.fn call E m k = some x → ∃ v m' b, k v m' = some x ∧ MStep m m' ∧ m'.hp = b :: m.hp ∧ b.nm = m.nx ∧ m'.nx = m.nx + 1 ∧ m'.ag = m.ag ∧ m'.wl = m.wl ∧ v < cB ∧
    ∀ (T : List Nat) (s : St) (a : Act), Suf m'.ag T → Env P hole N s T E a → (∀ r, s.K r → r < s.w.heap.size) → s.sg m.nx = none →
      ∃ (cells : Array Value) (v' : Value), (f a).run P s.w = .ok v' (s.w.alloc (.cells cells b.el)) ∧ b.n ≤ cells.size ∧
        (∀ i, i < b.n → ∃ u, cells[i]? = some u ∧ VR P hole s (pg b.c i) u) ∧ VT P hole (s.new m.nx (.cells cells b.el)) T v v'

theorem new_sg (s : St) (n : Nat) (o : Obj) : (s.new n o).sg n = some s.w.heap.size := by show (if n = n then _ else _) = _; rw [if_pos rfl]

theorem allocF_ok {t : TypeId} {N n z : Nat} (h : zeroP P t = some (n, z)) : KAlloc P hole N (allocF n z t) (fun _ => Instr.alloc t true (.tuple #[])) := by
  intro call E m k x hm hx
  obtain ⟨i, zv, hi, hz, hn, hlt, hv⟩ := zeroP_ok (hole := hole) h
  obtain ⟨m', h1, h2, h3, h4, h5, h6, h7⟩ := newB_ok hx hm
  refine ⟨_, m', _, h1, h2, h6, rfl, h4, h5, h7, mkP_lt _ _ h3 (by omega), fun T s a _ _ _ hs => ?_⟩
  refine ⟨zv.cells, .pointer (some ⟨s.w.heap.size, 0, none⟩), ?_, by simp [hn], fun j hj => hv s j hj, VT.mk_p h3 (new_sg _ _ _)⟩
  simp [Instr.alloc, zeroValue, typeInfo, hi, hz, newVar, newRow]
theorem boxK_ok {t : TypeId} {N n : Nat} (y : Operand) : KAlloc P hole N (uop (sel N y) (boxK n t)) (fun a => Instr.box t (a.eval y)) := by
  intro call E m k x hm hx
  have hx : cellsK n ((sel N y).fn E) m (fun c => newB (mkP m.nx 0) n c t 0 m k) = some x := hx
  obtain ⟨c, h0, hc⟩ := cellsK_ok (P := P) (hole := hole) hx hm (sel_lt N y E)
  obtain ⟨m', h1, h2, h3, h4, h5, h6, h7⟩ := newB_ok h0 hm
  refine ⟨_, m', _, h1, h2, h6, rfl, h4, h5, h7, mkP_lt _ _ h3 (by omega), fun T s a hT ha _ hs => ?_⟩
  obtain ⟨_, e1, e2⟩ := hc T s _ (by rw [h5] at hT; exact hT) (ha y)
  refine ⟨(a.eval y).cells, .pointer (some ⟨s.w.heap.size, 0, none⟩), ?_, by simp [e1], e2, VT.mk_p h3 (new_sg _ _ _)⟩
  simp [Instr.box, newVar, newRow]

/-! ### rows of zeros -/
theorem repN_ok (z w : Nat) (hz : z < 2 ^ (320 * w)) : ∀ n, repN z w n < 2 ^ (320 * (n * w)) ∧ ∀ j, j < n * w → pg (repN z w n) j = pg z (j % w) := by
  intro n
  induction n with
  | zero => exact ⟨by show (0 : Nat) < _; exact Nat.two_pow_pos _, fun j hj => by omega⟩
  | succ n ih =>
    obtain ⟨h1, h2⟩ := ih
    have e : repN z w (n + 1) = z + (repN z w n) <<< (320 * w) := rfl
    have e2 : (n + 1) * w = w + n * w := by rw [Nat.add_mul, Nat.one_mul, Nat.add_comm]
    refine ⟨by rw [e, e2]; exact append_lt hz h1, fun j hj => ?_⟩
    rw [e, pg_append hz]
    by_cases hj' : j < w
    · rw [if_pos hj', Nat.mod_eq_of_lt hj']
    · rw [if_neg hj', h2 (j - w) (by omega)]
      rw [Nat.mod_eq_sub_mod (by omega : w ≤ j)]
theorem zeroRow_ok {s : St} {zv : Value} {w z n : Nat} (hw : 0 < w) (hsz : zv.cells.size = w) (hz : z < 2 ^ (320 * w)) (hv : ∀ j, j < w → ∃ u, zv.cells[j]? = some u ∧ VR P hole s (pg z j) u) :
    ((Array.range (n * w)).map (zv.cells[· % zv.cells.size]!)).size = n * w ∧ ∀ j, j < n * w → ∃ u, ((Array.range (n * w)).map (zv.cells[· % zv.cells.size]!))[j]? = some u ∧ VR P hole s (pg (repN z w n) j) u := by
  refine ⟨by simp, fun j hj => ?_⟩
  obtain ⟨u, h1, h2⟩ := hv (j % w) (Nat.mod_lt _ hw)
  refine ⟨u, ?_, by rw [(repN_ok z w hz n).2 j hj]; exact h2⟩
  rw [Array.getElem?_map, Array.getElem?_range]
  rw [if_pos hj]
  simp only [Option.map_some, hsz]
  rw [getElem!_def, h1]

theorem wrap_nat {n : Nat} (h : n < 9223372036854775808) : IntKind.i64.wrap (n : Int) = n := by
  rw [wrap_eq, show ((n : Int) % (kmod .i64 : Int)).toNat = n by
    show ((n : Int) % (18446744073709551616 : Nat)).toNat = n
    omega]
  exact toI_pos (k := .i64) h
theorem range0 (f : Nat → Value) : (Array.range 0).map f = #[] := by
  have h : ((Array.range 0).map f).size = 0 := by simp
  exact Array.eq_empty_of_size_eq_zero h
theorem run_makeSl {t e : TypeId} {i : TypeInfo} {zv : Value} {w : Nat} (ht : P.underlying t = some (.slice e)) (hi : P.info? e = some i) (hz : i.zero = some zv) (hsz : i.size = w) (k1 k2 : IntKind) (l c : Nat)
    (h1 : l ≤ c) (h2 : c ≤ 100000) (hb : i.bytes ≤ 65536) (W : World) :
    (Instr.makeSlice t (.int k1 l) (.int k2 c)).run P W = .ok (.slice (some ⟨W.heap.size, 0, none⟩) l c) (W.alloc (.cells ((Array.range (c * w)).map (zv.cells[· % zv.cells.size]!)) e)) := by
  have hle : i.bytes * c ≤ 65536 * 100000 := Nat.mul_le_mul hb h2
  have t1 : ¬ ((c : Int) < 0 ∨ (l : Int) < 0) := by omega
  have t2 : ¬ (281474976710656 < (i.bytes : Int) * (c : Int)) := by
    rw [← Int.natCast_mul]; omega
  have t4 : ¬ ((c : Int) < (l : Int)) := by omega
  have w1 := wrap_nat (n := l) (by omega)
  have w2 := wrap_nat (n := c) (by omega)
  by_cases h0 : c * w = 0
  · simp [Instr.makeSlice, run_underlying ht, asInt, asIntOf, typeInfo, hi, w1, w2, t1, t2, t4, sizeOf, hsz, h0, newRow, range0]
  · simp [Instr.makeSlice, run_underlying ht, asInt, asIntOf, typeInfo, hi, w1, w2, t1, t2, t4, sizeOf, hsz, h0, newRow, zeroValue, hz]
theorem mkSl_ok {t e : TypeId} {N n z w : Nat} {i : TypeInfo} (ht : P.underlying t = some (.slice e)) (hz : zeroP P e = some (n, z)) (hc : cl P e = some w) (hi : P.info? e = some i) (hn : n = w) (hb : i.bytes ≤ 65536)
    (y y' : Operand) : KAlloc P hole N (bop (sel N y) (sel N y') (mkSl e z w)) (fun a => Instr.makeSlice t (a.eval y) (a.eval y')) := by
  intro call E m k x hm hx
  subst hn
  have hx : mkSl e z n ((sel N y).fn E) ((sel N y').fn E) m k = some x := hx
  obtain ⟨p1, p2, hx⟩ := natK_ok hx
  obtain ⟨q1, q2, hx⟩ := natK_ok hx
  generalize hl : (sel N y).fn E / 32 = l at *
  generalize hcc : (sel N y').fn E / 32 = c at *
  obtain ⟨h1, hx⟩ := bc hx
  obtain ⟨h2, hx⟩ := bc hx
  have h1 : l ≤ c := ble_t h1
  have h2 : c ≤ 100000 := ble_t h2
  obtain ⟨_, _, _, hx⟩ := okS_ok hx
  obtain ⟨m', h3, h4, h5, h6, h7, h8, h9⟩ := newB_ok hx hm
  obtain ⟨i', zv, hi', hz', hn', hlt, hv⟩ := zeroP_ok (hole := hole) hz
  rw [hi] at hi'
  cases hi'
  obtain ⟨hw, i'', hi'', hsz⟩ := cl_ok hc
  rw [hi] at hi''
  cases hi''
  refine ⟨_, m', _, h3, h4, h8, rfl, h6, h7, h9, mkS_lt _ _ _ _ _ (by omega) h5 (by omega) (by omega) (by omega), fun T s a hT ha _ hs => ?_⟩
  have hr := zeroRow_ok (P := P) (hole := hole) (s := s) (n := c) hw hn' hlt (hv s)
  refine ⟨(Array.range (c * n)).map (zv.cells[· % zv.cells.size]!), .slice (some ⟨s.w.heap.size, 0, none⟩) l c, ?_, by rw [hr.1]; exact Nat.le_refl _, hr.2, VT.mk_sl h5 (by omega) (by omega) (new_sg _ _ _)⟩
  obtain ⟨k1, e1, _, _⟩ := VT.nat (ha y) p1 p2 (by omega)
  obtain ⟨k2, e2, _, _⟩ := VT.nat (ha y') q1 q2 (by omega)
  show (Instr.makeSlice t (a.eval y) (a.eval y')).run P s.w = _
  rw [e1, e2, hl, hcc]
  exact run_makeSl ht hi hz' hsz k1 k2 l c h1 h2 hb s.w

/-- a slice's literal -/
theorem bslF_ok {t e : TypeId} {N n z w len : Nat} (ht : P.underlying t = some (.slice e)) (hz : zeroP P e = some (n, z)) (hc : cl P e = some w) (hn : n = w) (hl : len ≤ 1000) (hw' : w ≤ 1000)
    (parts : List (Nat × Operand)) : KAlloc P hole N (bslF e (len * w) len (repN z w len) (fillF N (len * w) (fun i => some (i * w, w)) parts))
      (fun a => Instr.buildSlice t len (parts.map fun y => (y.1, a.eval y.2)).toArray) := by
  intro call E m k x hm hx
  subst hn
  obtain ⟨c, hx, hf⟩ := fillF_ok (P := P) (hole := hole) (place' := fun i => some (i * n, n)) (fun i ow h => h) parts hx hm
  obtain ⟨_, _, _, hx⟩ := okS_ok hx
  obtain ⟨m', h3, h4, h5, h6, h7, h8, h9⟩ := newB_ok hx hm
  obtain ⟨i, zv, hi, hz', hn', hlt, hv⟩ := zeroP_ok (hole := hole) hz
  obtain ⟨hw, i'', hi'', hsz⟩ := cl_ok hc
  rw [hi] at hi''
  cases hi''
  refine ⟨_, m', _, h3, h4, h8, rfl, h6, h7, h9, mkS_lt _ _ _ _ _ (by omega) h5 (by omega) (by omega) (by omega), fun T s a hT ha _ hs => ?_⟩
  have hr := zeroRow_ok (P := P) (hole := hole) (s := s) (n := len) hw hn' hlt (hv s)
  obtain ⟨cs', f1, f2, _, f4⟩ := hf T s a _ (by rw [h7] at hT; exact hT) ha hr.1 (repN_ok z n hlt len).1 hr.2
  refine ⟨cs', .slice (some ⟨s.w.heap.size, 0, none⟩) len len, ?_, by rw [f2]; exact Nat.le_refl _, f4, VT.mk_sl h5 (by omega) (by omega) (new_sg _ _ _)⟩
  have hbd : len * n ≤ 1000 * 1000 := Nat.mul_le_mul hl hw'
  have hbd' : ¬ 16777216 < len * n := by omega
  by_cases h0 : len * n = 0
  · have f1' := f1
    rw [h0, range0] at f1'
    simp [Instr.buildSlice, run_underlying ht, sizeOf, typeInfo, hi, hsz, h0, newRow, range0, f1']
  · simp [Instr.buildSlice, run_underlying ht, sizeOf, typeInfo, hi, hsz, h0, hbd', newRow, zeroValue, hz', f1]
end
end Go.Proofs.YgvaqwGreat.Ev
