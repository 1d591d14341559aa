/- The evaluator's operations against the model's: slicing; equality of byte arrays; composite values. -/
import Derived.Test.YgvaqwGreatEvH
set_option exponentiation.threshold 400
namespace Go.Proofs.YgvaqwGreat.Ev
open Go
section
variable {P : Program} {hole : Nat}

/-- the operands mean what the temporaries hold -/
def Env (P : Program) (hole N : Nat) (s : St) (T : List Nat) (E : Nat) (a : Act) : Prop := ∀ z, VT P hole s T ((sel N z).fn E) (a.eval z)

theorem sliceK_ok {t size nm off len cap E N : Nat} {lo hi mx : Option Operand} {m : Mem} {k : KV} {x : Nat × Mem} (ht : t < 32) (hnm : nm < 4294967296)
    (h : sliceK t size nm off len cap E (optF N lo) (optF N hi) (optF N mx) m k = some x) :
    ∃ b h' l, k (mkS t nm (if b = l then off else off + l * size) (h' - l) (b - l)) m = some x ∧ b ≤ cap ∧ h' ≤ b ∧ l ≤ h' ∧ off + l * size ≤ 4294967295 ∧ b ≤ 4294967295 ∧
      mkS t nm (if b = l then off else off + l * size) (h' - l) (b - l) < cB ∧
      ∀ (T : List Nat) (s : St) (a : Act), Env P hole N s T E a → optV cap b (mx.map a.eval) ∧ optV len h' (hi.map a.eval) ∧ optV 0 l (lo.map a.eval) := by
  obtain ⟨b, h, hb⟩ := optF_ok (P := P) (hole := hole) h
  obtain ⟨h', h, hh⟩ := optF_ok (P := P) (hole := hole) h
  obtain ⟨l, h, hl⟩ := optF_ok (P := P) (hole := hole) h
  obtain ⟨h1, h⟩ := bc h
  obtain ⟨h2, h⟩ := bc h
  obtain ⟨h3, h⟩ := bc h
  obtain ⟨h4, h5, h6, h⟩ := okS_ok h
  have h1 : b ≤ cap := ble_t h1
  have h2 : h' ≤ b := ble_t h2
  have h3 : l ≤ h' := ble_t h3
  have h4 : off + l * size ≤ 4294967295 := h4
  have e : (Bool.casesOn (Nat.beq b l) (Nat.add off (Nat.mul l size)) off : Nat) = if b = l then off else off + l * size := by
    cases hq : Nat.beq b l
    · rw [if_neg (beq_f hq)]; rfl
    · rw [if_pos (beq_t hq)]
  have h : k (mkS t nm (Bool.casesOn (Nat.beq b l) (Nat.add off (Nat.mul l size)) off) (h' - l) (b - l)) m = some x := h
  rw [e] at h
  refine ⟨b, h', l, h, h1, h2, h3, h4, h6, mkS_lt _ _ _ _ _ ht hnm ?_ (by omega) (by omega), fun T s a ha => ⟨hb T s a ha (by omega), hh T s a ha (by omega), hl T s a ha (by omega)⟩⟩
  split <;> omega

/-- operations on an operand and the temporaries of the bounds -/
def PureE (P : Program) (hole N : Nat) (g : Nat → Nat → Mem → KV → R) (f : Act → Value → Sem Value) : Prop :=
  ∀ E e m k x, e < cB → MOK m → g E e m k = some x → ∃ v m', k v m' = some x ∧ PStep m m' ∧ v < cB ∧
    ∀ (T : List Nat) (s : St) (a : Act) u, Suf m'.ag T → Env P hole N s T E a → VT P hole s T e u → ∃ v', (f a u).run P s.w = .ok v' s.w ∧ VT P hole s T v v'

theorem map_bad {N : Option Operand} {a : Act} (h : N = none) : N.map a.eval = none := by rw [h]; rfl
theorem addr_if {r o n b l : Nat} : (if b = l then (⟨r, o, none⟩ : Addr) else (⟨r, o, none⟩ : Addr).add n) = ⟨r, if b = l then o else o + n, none⟩ := by
  split
  · rfl
  · exact addr_add r o n

theorem opt_if {r o n b l : Nat} : (if b = l then some (⟨r, o, none⟩ : Addr) else (some (⟨r, o, none⟩ : Addr)).map (·.add n)) = some ⟨r, if b = l then o else o + n, none⟩ := by
  split
  · rfl
  · simp [addr_add]
theorem slArr_ok {N n w : Nat} {t e : TypeId} (ht : P.underlying t = some (.array n e)) (hc : cl P e = some w) (lo hi mx : Option Operand) (hbad : ¬ (hi = none ∧ mx ≠ none)) :
    PureE P hole N (fun E e => slArr w n (optF N lo) (optF N hi) (optF N mx) E e) (fun a u => Instr.sliceAt t u (lo.map a.eval) (hi.map a.eval) (mx.map a.eval)) := by
  intro E e m kk x he hm h
  obtain ⟨h1, h⟩ := chk_ok h
  obtain ⟨b, h', l, h, h2, h3, h4, h5, h6, h7, h8⟩ := sliceK_ok (P := P) (hole := hole) (by omega) (nmOf_lt e) h
  refine ⟨_, m, h, PStep.refl hm, h7, fun T s a u _ ha hu => ?_⟩
  obtain ⟨e1, e2, e3⟩ := h8 T s a ha
  obtain ⟨r, hr, rfl⟩ := VT.ptr hu h1
  have hrun := run_bounds (P := P) (isS := false) (c := n) e1 e2 e3 (Nat.le_refl _) (fun _ => rfl) h2 h3 h4 (by
    rintro ⟨q1, q2⟩
    refine hbad ⟨by simpa using q1, fun q => q2 (by rw [q]; rfl)⟩) s.w
  refine ⟨_, ?_, VT.mk_sl (off := if b = l then offP e else offP e + l * w) (len := h' - l) (cap := b - l) (nmOf_lt e) (by split <;> omega) (by omega) hr⟩
  simp [Instr.sliceAt, run_underlying ht, Instr.sureAddr, hrun, cl_run hc, addr_if]

theorem run_sliceSl {t e : TypeId} {w : Nat} (ht : P.underlying t = some (.slice e)) (hc : cl P e = some w) (p : Option Addr) (len cap l h b : Nat) (lo hi mx : Option Value) (W : World)
    (hrun : (Instr.sliceBounds true len cap lo hi mx).run P W = .ok (l, h, b) W) :
    (Instr.sliceAt t (.slice p len cap) lo hi mx).run P W = .ok (.slice (if b = l then p else p.map (·.add (l * w))) (h - l) (b - l)) W := by
  simp [Instr.sliceAt, run_underlying ht, Instr.slice, hrun, cl_run hc]

theorem slNil_ok {N : Nat} {lo hi mx : Option Operand} {E : Nat} {m : Mem} {k : KV} {x : Nat × Mem} (h : slNil (optF N lo) (optF N hi) (optF N mx) E m k = some x) :
    k 13 m = some x ∧ ∀ (T : List Nat) (s : St) (a : Act), Env P hole N s T E a → optV 0 0 (mx.map a.eval) ∧ optV 0 0 (hi.map a.eval) ∧ optV 0 0 (lo.map a.eval) := by
  obtain ⟨b, h, hb⟩ := optF_ok (P := P) (hole := hole) h
  obtain ⟨h', h, hh⟩ := optF_ok (P := P) (hole := hole) h
  obtain ⟨l, h, hl⟩ := optF_ok (P := P) (hole := hole) h
  obtain ⟨h1, h⟩ := bc h
  obtain ⟨h2, h⟩ := bc h
  obtain ⟨h3, h⟩ := bc h
  obtain rfl : b = 0 := beq_t h1
  obtain rfl : h' = 0 := beq_t h2
  obtain rfl : l = 0 := beq_t h3
  exact ⟨h, fun T s a ha => ⟨hb T s a ha (by omega), hh T s a ha (by omega), hl T s a ha (by omega)⟩⟩
theorem nil_lt : 13 < cB := lt_cB (by decide +kernel)
theorem VT.mk_nil {s : St} {T : List Nat} : VT P hole s T 13 (.slice none 0 0) := VT.of_VR (by unfold VR; exact ⟨rfl, rfl⟩)

theorem slNum_ok {N w : Nat} {t el : TypeId} (ht : P.underlying t = some (.slice el)) (hc : cl P el = some w) (lo hi mx : Option Operand) (hbad : ¬ (hi = none ∧ mx ≠ none)) {E e : Nat} {m : Mem} {k : KV} {x : Nat × Mem} (he : e < cB)
    (h : slNum (optF N lo) (optF N hi) (optF N mx) E e m k = some x) : k e m = some x ∧ ∀ (T : List Nat) (s : St) (a : Act) u, Env P hole N s T E a → VT P hole s T e u →
      ∃ v', (Instr.sliceAt t u (lo.map a.eval) (hi.map a.eval) (mx.map a.eval)).run P s.w = .ok v' s.w ∧ VT P hole s T e v' := by
  obtain ⟨h14, h⟩ := chk_ok h
  have hd : digits (e / 32) ≤ 40 := digits_small (Nat.lt_of_le_of_lt (Nat.div_le_self e 32) he)
  obtain ⟨b, h, hb⟩ := optF_ok (P := P) (hole := hole) h
  obtain ⟨g, h, hg⟩ := optF_ok (P := P) (hole := hole) h
  obtain ⟨l, h, hl⟩ := optF_ok (P := P) (hole := hole) h
  obtain ⟨q1, h⟩ := bc h
  obtain ⟨q2, h⟩ := bc h
  obtain ⟨q3, hz⟩ := bc h
  have q1 : b = digits (e / 32) := beq_t q1
  have q2 : g = digits (e / 32) := beq_t q2
  have q3 : l = 0 := beq_t q3
  refine ⟨hz, fun T s a u ha hu => ?_⟩
  obtain ⟨y0, r, c, cells, el', y1, rfl, y2, y3, y4⟩ := VT.num hu h14
  have e1 := hb T s a ha (by omega)
  have e2 := hg T s a ha (by omega)
  have e3 := hl T s a ha (by omega)
  rw [q1] at e1
  rw [q2] at e2
  rw [q3] at e3
  have hbad' : ¬ (hi.map a.eval = none ∧ mx.map a.eval ≠ none) := fun q => hbad ⟨by simpa using q.1, fun hm => q.2 (by rw [hm]; rfl)⟩
  have fin : ∀ x', digits (e / 32) ≤ x' → (Instr.sliceBounds true (digits (e / 32)) c (lo.map a.eval) (hi.map a.eval) (mx.map a.eval)).run P s.w = .ok (0, digits (e / 32), x') s.w →
      ∃ v', (Instr.sliceAt t (.slice (some ⟨r, 0, none⟩) (digits (e / 32)) c) (lo.map a.eval) (hi.map a.eval) (mx.map a.eval)).run P s.w = .ok v' s.w ∧ VT P hole s T e v' := by
    intro x' hx' hrun
    refine ⟨_, run_sliceSl ht hc _ _ _ _ _ _ _ _ _ s.w hrun, VT.of_VR ?_⟩
    rw [opt_if]
    unfold VR
    simp only [h14]
    exact ⟨y0, r, x' - 0, cells, el', y1, by simp, by omega, y3, y4⟩
  cases hmx : mx.map a.eval with
  | none =>
    rw [hmx] at fin hbad'
    exact fin c y2 (run_bounds (P := P) (isS := true) (cap := c) (c := c) (x := c) (mx := none) (.inl ⟨rfl, rfl⟩) e2 e3 (Nat.le_refl _) (fun _ => rfl) (Nat.le_refl _) y2 (Nat.zero_le _) hbad' s.w)
  | some z =>
    rw [hmx] at fin hbad' e1
    have e1' : optV c (digits (e / 32)) (some z) := by
      rcases e1 with ⟨q, _⟩ | q
      · cases q
      · exact .inr q
    exact fin _ (Nat.le_refl _) (run_bounds (P := P) (isS := true) (cap := c) (c := c) e1' e2 e3 (Nat.le_refl _) (fun _ => rfl) y2 (Nat.le_refl _) (Nat.zero_le _) hbad' s.w)
theorem slMax_ok {N w : Nat} {t e : TypeId} (ht : P.underlying t = some (.slice e)) (hc : cl P e = some w) (lo hi mx : Option Operand) (hh : hi ≠ none) (hm' : mx ≠ none) :
    PureE P hole N (fun E e => slMax w (optF N lo) (optF N hi) (optF N mx) E e) (fun a u => Instr.sliceAt t u (lo.map a.eval) (hi.map a.eval) (mx.map a.eval)) := by
  intro E e m kk x he hm h
  have hbad : ∀ a : Act, ¬ (hi.map a.eval = none ∧ mx.map a.eval ≠ none) := fun a q => hh (by simpa using q.1)
  simp only [slMax] at h
  cases hs : isSl e
  · rw [hs] at h
    cases h1 : Nat.beq e 13
    · rw [h1] at h
      obtain ⟨h2, h3⟩ := slNum_ok (P := P) (hole := hole) ht hc lo hi mx (fun q => hh q.1) he h
      exact ⟨e, m, h2, PStep.refl hm, he, fun T s a u _ ha hu => h3 T s a u ha hu⟩
    rw [h1] at h
    obtain ⟨h2, h3⟩ := slNil_ok (P := P) (hole := hole) h
    obtain rfl : e = 13 := beq_t h1
    refine ⟨13, m, h2, PStep.refl hm, nil_lt, fun T s a u _ ha hu => ?_⟩
    obtain ⟨e1, e2, e3⟩ := h3 T s a ha
    rw [VT.nilSl hu]
    refine ⟨_, run_sliceSl ht hc none 0 0 0 0 0 _ _ _ s.w (run_bounds (c := 0) e1 e2 e3 (Nat.le_refl _) (fun _ => rfl) (Nat.le_refl _) (Nat.le_refl _) (Nat.le_refl _) (hbad a) s.w), ?_⟩
    exact VT.mk_nil
  · rw [hs] at h
    obtain ⟨b, h', l, h, h2, h3, h4, h5, h6, h7, h8⟩ := sliceK_ok (P := P) (hole := hole) (by omega) (nmOf_lt e) h
    refine ⟨_, m, h, PStep.refl hm, h7, fun T s a u _ ha hu => ?_⟩
    obtain ⟨e1, e2, e3⟩ := h8 T s a ha
    obtain ⟨r, c, hr, rfl, hc1, _⟩ := VT.anySl hu hs
    have hrun := run_bounds (P := P) (isS := true) (c := c) e1 e2 e3 hc1 (fun q => absurd (by simpa using q) hm') h2 h3 h4 (hbad a) s.w
    refine ⟨_, run_sliceSl ht hc _ _ _ _ _ _ _ _ _ s.w hrun, ?_⟩
    have := VT.mk_sl (P := P) (hole := hole) (T := T) (off := if b = l then offS e else offS e + l * w) (len := h' - l) (cap := b - l) (nmOf_lt e) (by split <;> omega) (by omega) hr
    rw [opt_if]
    exact this

/-- no max is given -/
theorem slBare_ok {N w : Nat} {t e : TypeId} (ht : P.underlying t = some (.slice e)) (hc : cl P e = some w) (lo hi : Option Operand) :
    PureE P hole N (fun E e => slBare w (optF N lo) (optF N hi) (optF N none) E e) (fun a u => Instr.sliceAt t u (lo.map a.eval) (hi.map a.eval) ((none : Option Operand).map a.eval)) := by
  intro E e m kk x he hm h
  have hbad : ∀ a : Act, ¬ (hi.map a.eval = none ∧ (none : Option Operand).map a.eval ≠ none) := fun a q => q.2 rfl
  simp only [slBare] at h
  cases hs : Nat.beq (Nat.mod e 32) 12
  · rw [hs] at h
    cases hs' : Nat.beq (Nat.mod e 32) 18
    · simp only [hs'] at h
      cases h1 : Nat.beq e 13
      · rw [h1] at h
        obtain ⟨h2, h3⟩ := slNum_ok (P := P) (hole := hole) ht hc lo hi none (fun q => q.2 rfl) he h
        exact ⟨e, m, h2, PStep.refl hm, he, fun T s a u _ ha hu => h3 T s a u ha hu⟩
      rw [h1] at h
      obtain ⟨h2, h3⟩ := slNil_ok (P := P) (hole := hole) h
      obtain rfl : e = 13 := beq_t h1
      refine ⟨13, m, h2, PStep.refl hm, nil_lt, fun T s a u _ ha hu => ?_⟩
      obtain ⟨e1, e2, e3⟩ := h3 T s a ha
      rw [VT.nilSl hu]
      refine ⟨_, run_sliceSl ht hc none 0 0 0 0 0 _ _ _ s.w (run_bounds (c := 0) e1 e2 e3 (Nat.le_refl _) (fun _ => rfl) (Nat.le_refl _) (Nat.le_refl _) (Nat.le_refl _) (hbad a) s.w), ?_⟩
      exact VT.mk_nil
    · simp only [hs'] at h
      have ht18 : e % 32 = 18 := beq_t hs'
      obtain ⟨h', h, hh⟩ := optF_ok (P := P) (hole := hole) h
      obtain ⟨l, h, hl⟩ := optF_ok (P := P) (hole := hole) h
      obtain ⟨h1, h⟩ := bc h
      obtain ⟨h2, h⟩ := bc h
      obtain ⟨h3, h4, h5, hz⟩ := okS_ok h
      obtain rfl : l = 0 := beq_t h1
      have h2 : h' ≤ capS e := ble_t h2
      refine ⟨_, m, hz, PStep.refl hm, mkS_lt _ _ _ _ _ (by omega) (nmOf_lt e) h3 h4 h5, fun T s a u _ ha hu => ?_⟩
      obtain ⟨r, c, cells, el, y1, rfl, y2, y3, y4⟩ := VT.loose hu ht18
      have e2 := hh T s a ha (by omega)
      have e3 := hl T s a ha (by omega)
      have hrun := run_bounds (P := P) (isS := true) (cap := c) (c := c) (x := c) (mx := (none : Option Operand).map a.eval) (.inl ⟨rfl, rfl⟩) e2 e3 (Nat.le_refl _) (fun _ => rfl) (Nat.le_refl _) (Nat.le_trans h2 y2) (Nat.zero_le _) (hbad a) s.w
      refine ⟨_, run_sliceSl ht hc _ _ _ _ _ _ _ _ _ s.w hrun, VT.of_VR ?_⟩
      rw [opt_if]
      unfold VR
      rw [mkS_tag _ _ _ _ _ (by omega)]
      show LooseV P s _ _
      have h0 : (if c = 0 then offS e else offS e + 0 * w) = offS e := by split <;> omega
      refine ⟨r, c, cells, el, by rw [mkS_nm _ _ _ _ _ (by omega) (nmOf_lt e)]; exact y1, ?_, ?_, y3, ?_⟩
      · rw [mkS_off _ _ _ _ _ (by omega) (nmOf_lt e) h3, mkS_len _ _ _ _ _ (by omega) (nmOf_lt e) h3 h4, h0]
        rfl
      · rw [mkS_cap _ _ _ _ _ (by omega) (nmOf_lt e) h3 h4]; exact y2
      · rw [mkS_off _ _ _ _ _ (by omega) (nmOf_lt e) h3]; exact y4
  · rw [hs] at h
    have ht12 : e % 32 = 12 := beq_t hs
    obtain ⟨b, h', l, h, h2, h3, h4, h5, h6, h7, h8⟩ := sliceK_ok (P := P) (hole := hole) (by omega) (nmOf_lt e) h
    refine ⟨_, m, h, PStep.refl hm, h7, fun T s a u _ ha hu => ?_⟩
    obtain ⟨e1, e2, e3⟩ := h8 T s a ha
    obtain ⟨r, hr, rfl⟩ := VT.sl hu ht12
    have hrun := run_bounds (P := P) (isS := true) (c := capS e) e1 e2 e3 (Nat.le_refl _) (fun _ => rfl) h2 h3 h4 (hbad a) s.w
    refine ⟨_, run_sliceSl ht hc _ _ _ _ _ _ _ _ _ s.w hrun, ?_⟩
    rw [opt_if]
    exact VT.mk_sl (off := if b = l then offS e else offS e + l * w) (len := h' - l) (cap := b - l) (nmOf_lt e) (by split <;> omega) (by omega) hr

/-! ### a value's cells -/
theorem cells_one {v : Value} (h : v.oneCell' = true) : v.cells = #[v] := by cases v <;> first | rfl | (simp [Value.oneCell'] at h)
theorem cellsK_ok {n e : Nat} {m : Mem} {k : Nat → R} {x : Nat × Mem} (h : cellsK n e m k = some x) (hm : MOK m) (he : e < cB) :
    ∃ p, k p = some x ∧ ∀ (T : List Nat) (s : St) u, Suf m.ag T → VT P hole s T e u → p < 2 ^ (320 * n) ∧ u.cells.size = n ∧ ∀ j, j < n → ∃ v, u.cells[j]? = some v ∧ VR P hole s (pg p j) v := by
  unfold cellsK at h
  cases h1 : Nat.beq (Nat.mod e 32) 20
  · rw [h1] at h
    obtain ⟨h2, h⟩ := bc h
    obtain ⟨h3, h4, hz⟩ := chkC_ok h
    obtain rfl : n = 1 := beq_t h2
    refine ⟨e, hz, fun T s u hT hu => ?_⟩
    have y : VR P hole s e u := VR.of_VT h3 h4 hu
    rw [cells_one y.one]
    refine ⟨by rw [cB_eq] at he; simpa using he, rfl, fun j hj => ?_⟩
    obtain rfl : j = 0 := by omega
    refine ⟨u, rfl, ?_⟩
    have : pg e 0 = e := by have := pg_cons_zero (a := e) (r := 0) he; simpa using this
    rw [this]; exact y
  · rw [h1] at h
    obtain ⟨h2, h⟩ := bc h
    obtain ⟨h3, h⟩ := agOf_ok h hm
    have h2 : e / 137438953472 = n := beq_t h2
    refine ⟨_, h, fun T s u hT hu => ?_⟩
    obtain ⟨_, h5, cs, rfl, h6, h7⟩ := VT.agg hu (beq_t h1)
    rw [agT_suf hT h3, h2] at h5
    rw [h2] at h6 h7
    refine ⟨h5, h6, fun j hj => ?_⟩
    obtain ⟨v, h8, h9⟩ := h7 j hj
    rw [agT_suf hT h3] at h9
    exact ⟨v, h8, h9⟩

/-! ### composite values -/
theorem foldl_set (l : List Value) (off : Nat) : ∀ (i : Nat) (cs : Array Value),
    (l.zipIdx i).foldl (fun cs (x : Value × Nat) => cs.setIfInBounds (off + x.2) x.1) cs = (l.zipIdx i).foldl (fun cs (x : Value × Nat) => cs.setIfInBounds (off + x.2) x.1) cs := fun _ _ => rfl
theorem zip_get (l : List Value) (off : Nat) : ∀ (i : Nat) (cs : Array Value) (j : Nat),
    ((l.zipIdx i).foldl (fun (cs : Array Value) (x : Value × Nat) => cs.setIfInBounds (off + x.2) x.1) cs)[j]? =
      if off + i ≤ j ∧ j < off + i + l.length ∧ j < cs.size then l[j - (off + i)]? else cs[j]? := by
  induction l with
  | nil =>
    intro i cs j
    simp only [List.zipIdx_nil, List.foldl_nil, List.length_nil]
    rw [if_neg (by omega)]
  | cons v r ih =>
    intro i cs j
    simp only [List.zipIdx_cons, List.foldl_cons]
    rw [ih]
    simp only [Array.size_setIfInBounds, List.length_cons]
    by_cases h1 : off + (i + 1) ≤ j ∧ j < off + (i + 1) + r.length ∧ j < cs.size
    · rw [if_pos h1, if_pos (by omega)]
      rw [show j - (off + i) = (j - (off + (i + 1))) + 1 by omega, List.getElem?_cons_succ]
    · rw [if_neg h1, Array.getElem?_setIfInBounds]
      by_cases h2 : off + i = j
      · subst h2
        by_cases h3 : off + i < cs.size
        · rw [if_pos rfl, if_pos h3, if_pos (by omega)]
          simp
        · rw [if_pos rfl, if_neg h3, if_neg (by omega)]
          rw [Array.getElem?_eq_none (by omega)]
      · rw [if_neg h2, if_neg (by omega)]
end
end Go.Proofs.YgvaqwGreat.Ev
