/- The evaluator's operations against the model's: slices, lengths, composite values, equality of byte arrays. -/
import Derived.Test.YgvaqwGreatEvG
set_option exponentiation.threshold 400
namespace Go.Proofs.YgvaqwGreat.Ev
open Go
section
variable {P : Program} {hole : Nat}

/-! ### codes of slices -/
theorem mkS_tag (t nm off len cap : Nat) (ht : t < 32) : mkS t nm off len cap % 32 = t := by
  show (t + 32 * (nm + 4294967296 * (off + 4294967296 * (len + 4294967296 * cap)))) % 32 = t; omega
theorem mkS_nm (t nm off len cap : Nat) (ht : t < 32) (h1 : nm < 4294967296) : nmOf (mkS t nm off len cap) = nm := by
  show (t + 32 * (nm + 4294967296 * (off + 4294967296 * (len + 4294967296 * cap)))) / 32 % 4294967296 = nm; omega
theorem mkS_off (t nm off len cap : Nat) (ht : t < 32) (h1 : nm < 4294967296) (h2 : off ≤ 4294967295) : offS (mkS t nm off len cap) = off := by
  show (t + 32 * (nm + 4294967296 * (off + 4294967296 * (len + 4294967296 * cap)))) / 137438953472 % 4294967296 = off; omega
theorem mkS_len (t nm off len cap : Nat) (ht : t < 32) (h1 : nm < 4294967296) (h2 : off ≤ 4294967295) (h3 : len ≤ 4294967295) : lenS (mkS t nm off len cap) = len := by
  show (t + 32 * (nm + 4294967296 * (off + 4294967296 * (len + 4294967296 * cap)))) / 590295810358705651712 % 4294967296 = len; omega
theorem mkS_cap (t nm off len cap : Nat) (ht : t < 32) (h1 : nm < 4294967296) (h2 : off ≤ 4294967295) (h3 : len ≤ 4294967295) : capS (mkS t nm off len cap) = cap := by
  show (t + 32 * (nm + 4294967296 * (off + 4294967296 * (len + 4294967296 * cap)))) / 2535301200456458802993406410752 = cap; omega
theorem mkS_lt (t nm off len cap : Nat) (ht : t < 32) (h1 : nm < 4294967296) (h2 : off ≤ 4294967295) (h3 : len ≤ 4294967295) (h4 : cap ≤ 4294967295) : mkS t nm off len cap < cB := by
  refine lt_cB (Nat.lt_trans (m := 2 ^ 140) ?_ (Nat.pow_lt_pow_right (by omega) (by omega)))
  show t + 32 * (nm + 4294967296 * (off + 4294967296 * (len + 4294967296 * cap))) < _
  omega
theorem okS_ok {off len cap : Nat} {r : R} {x : Nat × Mem} (h : okS off len cap r = some x) : off ≤ 4294967295 ∧ len ≤ 4294967295 ∧ cap ≤ 4294967295 ∧ r = some x := by
  obtain ⟨h1, h⟩ := bc h
  obtain ⟨h2, h⟩ := bc h
  obtain ⟨h3, h⟩ := bc h
  exact ⟨ble_t h1, ble_t h2, ble_t h3, h⟩
theorem VT.sl {s : St} {T : List Nat} {e : Nat} {u : Value} (x : VT P hole s T e u) (h : e % 32 = 12) : ∃ r, s.sg (nmOf e) = some r ∧ u = .slice (some ⟨r, offS e, none⟩) (lenS e) (capS e) := by
  have y : VR P hole s e u := VR.of_VT (by omega) (by omega) x
  unfold VR at y
  simpa only [h] using y
theorem VT.loose {s : St} {T : List Nat} {e : Nat} {u : Value} (x : VT P hole s T e u) (h : e % 32 = 18) : LooseV P s e u := by
  have y : VR P hole s e u := VR.of_VT (by omega) (by omega) x
  unfold VR at y
  simpa only [h] using y
theorem VT.mk_sl {s : St} {T : List Nat} {nm off len cap r : Nat} (h1 : nm < 4294967296) (h2 : off ≤ 4294967295) (h3 : len ≤ 4294967295) (hr : s.sg nm = some r) :
    VT P hole s T (mkS 12 nm off len cap) (.slice (some ⟨r, off, none⟩) len cap) := by
  refine VT.of_VR ?_
  unfold VR
  rw [mkS_tag _ _ _ _ _ (by omega)]
  refine ⟨r, by rw [mkS_nm _ _ _ _ _ (by omega) h1]; exact hr, ?_⟩
  rw [mkS_off _ _ _ _ _ (by omega) h1 h2, mkS_len _ _ _ _ _ (by omega) h1 h2 h3, mkS_cap _ _ _ _ _ (by omega) h1 h2 h3]
/-- whichever slice in memory: where it lies, its length, a capacity -/
theorem VT.anySl {s : St} {T : List Nat} {e : Nat} {u : Value} (x : VT P hole s T e u) (h : isSl e = true) :
    ∃ r c, s.sg (nmOf e) = some r ∧ u = .slice (some ⟨r, offS e, none⟩) (lenS e) c ∧ capS e ≤ c ∧ (e % 32 = 12 → c = capS e) := by
  unfold isSl at h
  cases h1 : Nat.beq (Nat.mod e 32) 12
  · rw [h1] at h
    have h2 : e % 32 = 18 := beq_t h
    obtain ⟨r, c, cells, el, h3, h4, h5, _⟩ := VT.loose x h2
    exact ⟨r, c, h3, h4, h5, by omega⟩
  · have h2 : e % 32 = 12 := beq_t h1
    obtain ⟨r, h3, h4⟩ := VT.sl x h2
    exact ⟨r, capS e, h3, h4, Nat.le_refl _, fun _ => rfl⟩
theorem VT.num {s : St} {T : List Nat} {e : Nat} {u : Value} (x : VT P hole s T e u) (h : e % 32 = 14) : 0 < e / 32 ∧ NatV s u (e / 32) := by
  have y : VR P hole s e u := VR.of_VT (by omega) (by omega) x
  unfold VR at y
  simpa only [h] using y
theorem lenOf_ok {e : Nat} {k : Nat → R} {x : Nat × Mem} (h : lenOf e k = some x) :
    ∃ n, k n = some x ∧ ((isSl e = true ∧ n = lenS e) ∨ (e = 13 ∧ n = 0) ∨ (e % 32 = 14 ∧ n = digits (e / 32))) := by
  unfold lenOf at h
  cases h1 : isSl e
  · rw [h1] at h
    cases h2 : Nat.beq e 13
    · rw [h2] at h
      obtain ⟨h3, h⟩ := chk_ok h
      exact ⟨_, h, .inr (.inr ⟨h3, rfl⟩)⟩
    · rw [h2] at h
      exact ⟨0, h, .inr (.inl ⟨beq_t h2, rfl⟩)⟩
  · rw [h1] at h
    exact ⟨lenS e, h, .inl ⟨rfl, rfl⟩⟩
theorem lenOf_sl {s : St} {T : List Nat} {e n : Nat} {u : Value} (x : VT P hole s T e u) (h : (isSl e = true ∧ n = lenS e) ∨ (e = 13 ∧ n = 0) ∨ (e % 32 = 14 ∧ n = digits (e / 32))) : ∃ a c, u = .slice a n c := by
  rcases h with ⟨h1, rfl⟩ | ⟨rfl, rfl⟩ | ⟨h1, rfl⟩
  · obtain ⟨r, c, _, rfl, _⟩ := VT.anySl x h1
    exact ⟨_, _, rfl⟩
  · exact ⟨_, _, VT.nilSl x⟩
  · obtain ⟨_, b, c, cells, el, _, rfl, _⟩ := VT.num x h1
    exact ⟨_, _, rfl⟩
theorem lenS_lt (e : Nat) : lenS e < 4294967296 := Nat.mod_lt _ (by omega)
theorem offS_lt (e : Nat) : offS e < 4294967296 := Nat.mod_lt _ (by omega)

/-! ### len, min, a constant -/
def lsem (t : TypeId) (u : Value) : Sem Value := Builtin.len_ #[t] 0 #[u]
theorem int_enc {s : St} {T : List Nat} {n : Nat} (hn : n < 9223372036854775808) : VT P hole s T (4 + 32 * n) (.int .i64 n) := by
  have := VT.mk_int (P := P) (hole := hole) (s := s) (T := T) (k := .i64) (p := n) (show n < 18446744073709551616 by omega)
  rwa [toI_pos (k := .i64) (show n < 9223372036854775808 by omega)] at this
theorem digits_le {n : Nat} : digits n ≤ n := by
  cases n with
  | zero => exact Nat.le_refl _
  | succ m =>
    show Nat.log2 (m + 1) / 8 + 1 ≤ m + 1
    have h1 : Nat.log2 (m + 1) ≤ m := by
      have := Nat.log2_lt (n := m + 1) (k := m + 1) (by omega)
      have h2 : m + 1 < 2 ^ (m + 1) := Nat.lt_two_pow_self
      have := this.2 h2
      omega
    have : Nat.log2 (m + 1) / 8 ≤ Nat.log2 (m + 1) := Nat.div_le_self _ _
    omega
theorem digits_small {n : Nat} (h : n < cB) : digits n ≤ 40 := by
  cases n with
  | zero => show (0 : Nat) ≤ 40; omega
  | succ m =>
    show Nat.log2 (m + 1) / 8 + 1 ≤ 40
    have := (Nat.log2_lt (n := m + 1) (k := 320) (by omega)).2 (by rw [← cB_eq]; exact h)
    omega
theorem lenSl_ok {t e : TypeId} (ht : P.underlying t = some (.slice e)) (ty : TypeId) : PureU P hole lenSl (fun u => Builtin.len_ #[t] ty #[u]) := by
  intro a m kk x ha hm h
  unfold lenSl at h
  have hrun : ∀ p n c (w : World), (Builtin.len_ #[t] ty #[.slice p n c]).run P w = .ok (.int .i64 n) w := fun p n c w => by
    simp [Builtin.len_, run_underlying ht, goInt]
  cases h1 : Nat.beq (Nat.mod a 32) 14
  · rw [h1] at h
    obtain ⟨n, h2, h3⟩ := lenOf_ok h
    have hn : n < 4294967296 := by
      rcases h3 with ⟨_, rfl⟩ | ⟨_, rfl⟩ | ⟨_, rfl⟩
      · exact lenS_lt a
      · omega
      · have := digits_small (Nat.lt_of_le_of_lt (Nat.div_le_self a 32) ha); omega
    refine ⟨_, m, h2, PStep.refl hm, int_lt_cB (k := .i64) (p := n) (show n < 18446744073709551616 by omega), fun T s u _ hu => ?_⟩
    obtain ⟨p, c, rfl⟩ := lenOf_sl hu h3
    exact ⟨_, hrun p n c s.w, int_enc (by omega)⟩
  · rw [h1] at h
    have h2 : a % 32 = 14 := beq_t h1
    have h3 : digits (a / 32) ≤ 40 := digits_small (Nat.lt_of_le_of_lt (Nat.div_le_self _ _) ha)
    refine ⟨_, m, h, PStep.refl hm, int_lt_cB (k := .i64) (p := digits (a / 32)) (show _ < 18446744073709551616 by omega), fun T s u _ hu => ?_⟩
    have y : VR P hole s a u := VR.of_VT (by omega) (by omega) hu
    unfold VR at y
    simp only [h2] at y
    obtain ⟨_, b, c, cells, el, _, rfl, _⟩ := y
    exact ⟨_, hrun _ _ _ s.w, int_enc (by show digits (a / 32) < _; omega)⟩
theorem min2_ok : PureB P hole min2 Builtin.min2 := by
  intro a b m kk x ha hb hm h
  obtain ⟨h1, h⟩ := bc h
  obtain ⟨h2, h3, h⟩ := natK_ok h
  obtain ⟨h4, h5, h⟩ := natK_ok h
  obtain ⟨h6, h⟩ := bc h
  obtain ⟨h7, h⟩ := bc h
  have h1 : a % 32 = b % 32 := beq_t h1
  have h6 : a / 32 ≤ 4294967295 := ble_t h6
  have h7 : b / 32 ≤ 4294967295 := ble_t h7
  refine ⟨_, m, h, PStep.refl hm, by cases Nat.ble a b; exact hb; exact ha, fun T s u u' _ hu hu' => ?_⟩
  have hu0 := hu
  have hu0' := hu'
  obtain ⟨k, rfl, e1, _⟩ := VT.nat hu h2 h3 (by omega)
  obtain ⟨k', rfl, e2, _⟩ := VT.nat hu' h4 h5 (by omega)
  have hk : k = k' := by
    rw [h1, ← e2] at e1
    cases k <;> cases k' <;> first | rfl | exact absurd e1 (by decide)
  subst hk
  refine ⟨_, rfl, ?_⟩
  cases hc : Nat.ble a b
  · have := ble_f hc
    rw [if_pos (by omega)]
    exact hu0'
  · have := ble_t hc
    rw [if_neg (by omega)]
    exact hu0

/-! ### the address of a slice's element -/
theorem run_indexSl (t e : TypeId) (w : Nat) (ht : P.underlying t = some (.slice e)) (hc : cl P e = some w) (r off len cap i : Nat) (k : IntKind) (hi : i < len) (W : World) :
    (Instr.indexAt t (.slice (some ⟨r, off, none⟩) len cap) (.int k i)).run P W = .ok (.pointer (some ⟨r, off + i * w, none⟩)) W := by
  simp [Instr.indexAt, asIntOf, run_underlying ht, cl_run hc, addr_add]
  intro hh; omega
theorem mkP_lt (nm off : Nat) (h1 : nm < 4294967296) (h2 : off ≤ 4294967295) : mkP nm off < cB := by
  refine lt_cB (Nat.lt_trans (m := 2 ^ 80) ?_ (Nat.pow_lt_pow_right (by omega) (by omega)))
  show 10 + 32 * (nm + 4294967296 * off) < _
  omega
theorem VT.mk_p {s : St} {T : List Nat} {nm off r : Nat} (h1 : nm < 4294967296) (hr : s.sg nm = some r) : VT P hole s T (mkP nm off) (.pointer (some ⟨r, off, none⟩)) := by
  have := VT.mk_ptr (P := P) (hole := hole) (T := T) (e := mkP nm off) (s := s) (r := r) (mkP_tag _ _) (by rw [mkP_nm _ _ h1]; exact hr)
  rwa [mkP_off _ _ h1] at this
theorem ixSl_ok {t e : TypeId} {w : Nat} (ht : P.underlying t = some (.slice e)) (hc : cl P e = some w) : PureB P hole (ixSl w) (fun u u' => Instr.indexAt t u u') := by
  intro a b m kk x ha hb hm h
  obtain ⟨h1, h2, h⟩ := natK_ok h
  cases hs : isSl a
  · simp only [hs] at h
    obtain ⟨h3, h⟩ := chk_ok h
    obtain ⟨h4, h⟩ := bc h
    obtain ⟨h5, h⟩ := bc h
    obtain ⟨h6, hz⟩ := bc h
    have h4 : w = 1 := beq_t h4
    have h5 : a / 32 ≤ 1942668892225729070919461906823518906642406839052139521251812409738904285205208498176 := ble_t h5
    have h6 : b / 32 + 1 ≤ digits (a / 32) := ble_t h6
    have h7 : digits (a / 32) ≤ 40 := digits_small (Nat.lt_of_le_of_lt (Nat.div_le_self _ _) ha)
    have e0 : Nat.add 16 (Nat.mul 32 (Nat.add (b / 32) (Nat.mul 65536 (Nat.div a 32)))) = 16 + 32 * (b / 32 + 65536 * (a / 32)) := rfl
    subst h4
    refine ⟨_, m, hz, PStep.refl hm, ?_, fun T s u u' _ hu hu' => ?_⟩
    · rw [e0]
      have e1 : cB = 1942668892225729070919461906823518906642406839052139521251812409738904285205208498176 * 1099511627776 := by decide +kernel
      rw [e1]
      omega
    · have y : VR P hole s a u := VR.of_VT (by omega) (by omega) hu
      unfold VR at y
      simp only [h3] at y
      obtain ⟨_, q, c, cells, el, y1, rfl, _, y2, y3⟩ := y
      obtain ⟨k, rfl, _, _⟩ := VT.nat hu' h1 h2 (by omega)
      refine ⟨_, run_indexSl t e 1 ht hc q 0 _ c (b / 32) k (by omega) s.w, VT.of_VR ?_⟩
      rw [e0]
      unfold VR
      rw [show (16 + 32 * (b / 32 + 65536 * (a / 32))) % 32 = 16 by omega]
      show DigV s _ _ _
      rw [show (16 + 32 * (b / 32 + 65536 * (a / 32))) / 2097152 = a / 32 by omega, show (16 + 32 * (b / 32 + 65536 * (a / 32))) / 32 % 65536 = b / 32 by omega]
      exact ⟨q, cells, el, y1, by simp, y2, y3 _ (by omega)⟩
  · simp only [hs] at h
    obtain ⟨h3, h⟩ := bc h
    obtain ⟨h4, h⟩ := bc h
    have h3 : b / 32 + 1 ≤ lenS a := ble_t h3
    have h4 : offS a + b / 32 * w ≤ 4294967295 := ble_t h4
    have h5 := lenS_lt a
    refine ⟨_, m, h, PStep.refl hm, mkP_lt _ _ (nmOf_lt a) h4, fun T s u u' _ hu hu' => ?_⟩
    obtain ⟨r, c, h6, rfl, _⟩ := VT.anySl hu hs
    obtain ⟨k, rfl, _, _⟩ := VT.nat hu' h1 h2 (by omega)
    exact ⟨_, run_indexSl t e w ht hc r _ _ c (b / 32) k (by omega) s.w, VT.mk_p (nmOf_lt a) h6⟩
theorem toArr_ok {t e : TypeId} {n : Nat} (ht : P.underlying t = some (.array n e)) : PureU P hole (toArr n) (fun u => Instr.arrayAt t u) := by
  intro a m kk x ha hm h
  obtain ⟨h1, h⟩ := bc h
  obtain ⟨h2, h⟩ := bc h
  have h2 : n ≤ lenS a := ble_t h2
  have h3 := offS_lt a
  refine ⟨_, m, h, PStep.refl hm, mkP_lt _ _ (nmOf_lt a) (by omega), fun T s u _ hu => ?_⟩
  obtain ⟨r, c, h6, rfl, _⟩ := VT.anySl hu h1
  refine ⟨.pointer (some ⟨r, offS a, none⟩), ?_, VT.mk_p (nmOf_lt a) h6⟩
  have : ¬ lenS a < n := by omega
  simp [Instr.arrayAt, run_underlying ht, this]

/-! ### slicing -/
/-- a bound that is given, or not -/
def optV (d : Nat) (b : Nat) (v : Option Value) : Prop := (v = none ∧ b = d) ∨ ∃ k : IntKind, v = some (.int k b)
theorem optF_ok {N : Nat} {y : Option Operand} {d E : Nat} {k : Nat → R} {x : Nat × Mem} (h : (optF N y).fn d E k = some x) :
    ∃ b, k b = some x ∧ ∀ (T : List Nat) (s : St) (a : Act), (∀ z, VT P hole s T ((sel N z).fn E) (a.eval z)) → b < 9223372036854775808 → optV d b (y.map a.eval) := by
  cases y with
  | none => exact ⟨d, h, fun _ _ _ _ _ => .inl ⟨rfl, rfl⟩⟩
  | some z =>
    obtain ⟨h1, h2, h3⟩ := natK_ok h
    refine ⟨_, h3, fun T s a ha hb => ?_⟩
    obtain ⟨k, h4, _⟩ := VT.nat (ha z) h1 h2 hb
    exact .inr ⟨k, by rw [Option.map_some, h4]⟩
theorem run_bounds {isS : Bool} {len cap c x h l : Nat} {lo hi mx : Option Value} (hx : optV cap x mx) (hh : optV len h hi) (hl : optV 0 l lo) (hc : cap ≤ c) (hex : mx = none → c = cap)
    (h1 : x ≤ cap) (h2 : h ≤ x) (h3 : l ≤ h) (hbad : ¬ (hi = none ∧ mx ≠ none)) (w : World) :
    (Instr.sliceBounds isS len c lo hi mx).run P w = .ok (l, h, x) w := by
  have hb : ∀ (k : IntKind) (b y : Nat) (code : BoundsCode), b ≤ y → (Instr.sliceBound (.int k b) y code).run P w = .ok b w := by
    intro k b y code hby
    have : (0 : Int) ≤ b ∧ (b : Int) ≤ y := by omega
    simp [Instr.sliceBound, asIntOf, this]
  unfold Instr.sliceBounds
  rcases hx with ⟨rfl, rfl⟩ | ⟨k1, rfl⟩
  · have := hex rfl
    subst this
    rcases hh with ⟨rfl, rfl⟩ | ⟨k2, rfl⟩
    · rcases hl with ⟨rfl, rfl⟩ | ⟨k3, rfl⟩
      · simp
      · simp [hb k3 l h _ h3]
    · rcases hl with ⟨rfl, rfl⟩ | ⟨k3, rfl⟩
      · simp [hb k2 h c _ h2]
      · simp [hb k2 h c _ h2, hb k3 l h _ h3]
  · rcases hh with ⟨rfl, rfl⟩ | ⟨k2, rfl⟩
    · exact absurd ⟨rfl, by simp⟩ hbad
    · rcases hl with ⟨rfl, rfl⟩ | ⟨k3, rfl⟩
      · simp [hb k1 x c _ (by omega), hb k2 h x _ h2]
      · simp [hb k1 x c _ (by omega), hb k2 h x _ h2, hb k3 l h _ h3]
end
end Go.Proofs.YgvaqwGreat.Ev
