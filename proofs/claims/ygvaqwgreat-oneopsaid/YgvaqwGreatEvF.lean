/- The evaluator's operations against the model's: shifts, conversions, equality, parts of aggregates, addresses. -/
import Derived.Test.YgvaqwGreatEvE
set_option exponentiation.threshold 400
namespace Go.Proofs.YgvaqwGreat.Ev
open Go
section
variable {P : Program} {hole : Nat}

theorem natK_ok {e : Nat} {k : Nat → R} {x : Nat × Mem} (h : natK e k = some x) : 4 ≤ e % 32 ∧ e % 32 ≤ 8 ∧ k (e / 32) = some x := by
  obtain ⟨h1, h2⟩ := bc h
  have h3 : (e + 28) % 32 ≤ 4 := ble_t h1
  exact ⟨by omega, by omega, h2⟩
theorem VT.nat {s : St} {T : List Nat} {e : Nat} {u : Value} (x : VT P hole s T e u) (h1 : 4 ≤ e % 32) (h2 : e % 32 ≤ 8) (h3 : e / 32 < 9223372036854775808) :
    ∃ k, u = .int k (e / 32 : Nat) ∧ ktag k = e % 32 ∧ e / 32 < kpos k := by
  have hk : ∃ k, ktag k = e % 32 ∧ (k = .i64 ∨ unsg k = true) := by
    have : e % 32 = 4 ∨ e % 32 = 5 ∨ e % 32 = 6 ∨ e % 32 = 7 ∨ e % 32 = 8 := by omega
    rcases this with h | h | h | h | h
    · exact ⟨.i64, h.symm, .inl rfl⟩
    · exact ⟨.u8, h.symm, .inr rfl⟩
    · exact ⟨.u16, h.symm, .inr rfl⟩
    · exact ⟨.u32, h.symm, .inr rfl⟩
    · exact ⟨.u64, h.symm, .inr rfl⟩
  obtain ⟨k, hk, hs⟩ := hk
  obtain ⟨h4, rfl⟩ := VT.int x hk.symm
  have : e / 32 < kpos k := by
    rcases hs with rfl | hs
    · exact h3
    · obtain ⟨h5, _⟩ := unsg_pos hs; omega
  exact ⟨k, by rw [toI_pos this], hk, this⟩

theorem min_pow_mod (p s n : Nat) : p * 2 ^ (min s n) % 2 ^ n = p * 2 ^ s % 2 ^ n := by
  rcases Nat.le_total s n with h | h
  · rw [Nat.min_eq_left h]
  · rw [Nat.min_eq_right h, Nat.mul_mod_left]
    have : 2 ^ s = 2 ^ n * 2 ^ (s - n) := by rw [← Nat.pow_add]; congr 1; omega
    rw [this, show p * (2 ^ n * 2 ^ (s - n)) = 2 ^ n * (p * 2 ^ (s - n)) by rw [Nat.mul_left_comm], Nat.mul_mod_right]
theorem min_pow_div {p s n : Nat} (hp : p < 2 ^ n) : p / 2 ^ (min s n) = p / 2 ^ s := by
  rcases Nat.le_total s n with h | h
  · rw [Nat.min_eq_left h]
  · rw [Nat.min_eq_right h, Nat.div_eq_of_lt hp, Nat.div_eq_of_lt (Nat.lt_of_lt_of_le hp (Nat.pow_le_pow_right (by omega) h))]

theorem run_shl (k k' : IntKind) (y : Int) (q : Nat) (t : TypeId) (X Y : Operand) (w : World) :
    (bsem .shl t X Y (.int k y) (.int k' q)).run P w = .ok (.int k (k.wrap (y * 2 ^ (min q k.bits)))) w := by
  have : ¬ (q : Int) < 0 := by omega
  simp [bsem, eqGuard, binOp, Op.shift, this]
theorem run_shr (k k' : IntKind) (y : Int) (q : Nat) (t : TypeId) (X Y : Operand) (w : World) :
    (bsem .shr t X Y (.int k y) (.int k' q)).run P w = .ok (.int k (y.fdiv (2 ^ (min q k.bits)))) w := by
  have : ¬ (q : Int) < 0 := by omega
  simp [bsem, eqGuard, binOp, Op.shift, this]
theorem fdiv_pow (p n : Nat) : (p : Int).fdiv (2 ^ n) = ((p / 2 ^ n : Nat) : Int) := by
  rw [Int.fdiv_eq_ediv_of_nonneg _ (by exact Int.le_of_lt (Int.pow_pos (by omega))), Int.natCast_ediv, Int.natCast_pow]; rfl
theorem shlI_ok (k : IntKind) (hu : unsg k = true) (t : TypeId) (X Y : Operand) : PureB P hole (shlI (ktag k) (kM k)) (bsem .shl t X Y) := by
  intro a b m kk x ha hb hm h
  obtain ⟨h1, h⟩ := chk_ok h
  obtain ⟨h2, h3, h⟩ := natK_ok h
  obtain ⟨h4, h⟩ := bc h
  have h4 : b / 32 ≤ 63 := ble_t h4
  obtain ⟨hp1, _, _⟩ := unsg_pos hu
  have hk := ktag_lt k
  refine ⟨_, m, h, PStep.refl hm, kM_lt k _ _ hk.2, fun T s u u' _ hu hu' => ?_⟩
  obtain ⟨h5, rfl⟩ := VT.int hu h1
  obtain ⟨k', rfl, _, _⟩ := VT.nat hu' h2 h3 (by omega)
  refine ⟨.int k (k.wrap (toI k (a / 32) * 2 ^ (min (b / 32) k.bits))), run_shl k k' _ _ t X Y _, ?_⟩
  have e1 : a - ktag k = 32 * (a / 32) := by omega
  have e2 : (ktag k).add ((Nat.shiftLeft (Nat.sub a (ktag k)) (b / 32)).mod (kM k)) = ktag k + 32 * (a / 32 * 2 ^ (b / 32) % kmod k) := by
    show ktag k + ((a - ktag k) <<< (b / 32)) % kM k = _
    rw [e1, Nat.shiftLeft_eq, Nat.mul_assoc]
    unfold kM
    rw [Nat.mul_mod_mul_left]
  rw [e2]
  have e3 : k.wrap (toI k (a / 32) * 2 ^ (min (b / 32) k.bits)) = toI k (a / 32 * 2 ^ (b / 32) % kmod k) := by
    rw [toI_pos (by omega), wrap_eq]
    congr 1
    have : ((a / 32 : Nat) : Int) * 2 ^ min (b / 32) k.bits % (kmod k : Int) = ((a / 32 * 2 ^ min (b / 32) k.bits % kmod k : Nat) : Int) := by
      rw [Int.natCast_emod, Int.natCast_mul, Int.natCast_pow]; rfl
    rw [this, Int.toNat_natCast, ← bits_pow k, min_pow_mod]
  rw [e3]
  exact VT.mk_int (Nat.mod_lt _ (by have := kmod_bd k; omega))

theorem shrI_ok (k : IntKind) (hu : unsg k = true) (t : TypeId) (X Y : Operand) : PureB P hole (shrI (ktag k)) (bsem .shr t X Y) := by
  intro a b m kk x ha hb hm h
  obtain ⟨h1, h⟩ := chk_ok h
  obtain ⟨h2, h3, h⟩ := natK_ok h
  obtain ⟨h4, h⟩ := bc h
  have h4 : b / 32 ≤ 63 := ble_t h4
  obtain ⟨hp1, _, _⟩ := unsg_pos hu
  have hk := ktag_lt k
  have e0 : (ktag k).add (Nat.mul 32 (Nat.shiftRight (Nat.div a 32) (b / 32))) = ktag k + 32 * (a / 32 / 2 ^ (b / 32)) := by
    show ktag k + 32 * ((a / 32) >>> (b / 32)) = _
    rw [Nat.shiftRight_eq_div_pow]
  have hle : a / 32 / 2 ^ (b / 32) ≤ a / 32 := Nat.div_le_self _ _
  refine ⟨_, m, h, PStep.refl hm, by rw [e0]; omega, fun T s u u' _ hu hu' => ?_⟩
  obtain ⟨h5, rfl⟩ := VT.int hu h1
  obtain ⟨k', rfl, _, _⟩ := VT.nat hu' h2 h3 (by omega)
  refine ⟨.int k ((toI k (a / 32)).fdiv (2 ^ (min (b / 32) k.bits))), run_shr k k' _ _ t X Y _, ?_⟩
  rw [e0, toI_pos (by omega)]
  have e3 : ((a / 32 : Nat) : Int).fdiv (2 ^ (min (b / 32) k.bits)) = toI k (a / 32 / 2 ^ (b / 32)) := by
    rw [toI_pos (by omega), ← min_pow_div (n := k.bits) (by rw [bits_pow]; exact h5)]
    exact fdiv_pow _ _
  rw [e3]
  exact VT.mk_int (by omega)

theorem cvI_ok (k l : IntKind) (hk : unsg k = true ∨ k = .i64) (sT dT : TypeId) {d0 : TypeDesc} (hs : P.underlying sT = some d0) (hd : P.underlying dT = some (.int l)) :
    PureU P hole (cvI (ktag k) (ktag l) (kM l)) (convert sT dT) := by
  intro e m kk x he hm h
  obtain ⟨h1, h⟩ := chk_ok h
  have hk1 := ktag_lt k
  have hl1 := ktag_lt l
  refine ⟨_, m, h, PStep.refl hm, kM_lt l _ _ hl1.2, fun T s u _ hu => ?_⟩
  obtain ⟨h2, rfl⟩ := VT.int hu h1
  refine ⟨.int l (l.wrap (toI k (e / 32))), by simp [convert, run_underlying hs, run_underlying hd, Conv.intToInt], ?_⟩
  have e2 : (ktag l).add ((Nat.sub e (ktag k)).mod (kM l)) = ktag l + 32 * (e / 32 % kmod l) := by
    show ktag l + (e - ktag k) % kM l = _
    rw [show e - ktag k = 32 * (e / 32) by omega]
    unfold kM
    rw [Nat.mul_mod_mul_left]
  rw [e2, wrap_conv]
  · exact VT.mk_int (Nat.mod_lt _ (by have := kmod_bd l; omega))
  · rcases hk with hk | rfl
    · obtain ⟨h5, _⟩ := unsg_pos hk; exact .inr (by omega)
    · exact .inl (by cases l <;> decide)

/-! ### equality of bools; against nil -/
theorem eqB_ok (t : TypeId) (X Y : Operand) (ht : P.underlying t = some .bool) : PureB P hole eqB (bsem .eql t X Y) := by
  intro a b m kk x ha hb hm h
  obtain ⟨h1, h⟩ := chk_ok h
  obtain ⟨h2, h⟩ := chk_ok h
  refine ⟨_, m, h, PStep.refl hm, bV_lt _, fun T s u u' _ hu hu' => ?_⟩
  obtain ⟨c, rfl, rfl⟩ := VT.bool hu h1
  obtain ⟨d, rfl, rfl⟩ := VT.bool hu' h2
  refine ⟨.bool (c == d), by simp [bsem, eqGuard, binOp, run_equal_bool s.w t c d ht], ?_⟩
  have : Nat.beq (bV c) (bV d) = (c == d) := by cases c <;> cases d <;> rfl
  rw [this]
  exact VT.mk_bool _
theorem neB_ok (t : TypeId) (X Y : Operand) (ht : P.underlying t = some .bool) : PureB P hole neB (bsem .neq t X Y) := by
  intro a b m kk x ha hb hm h
  obtain ⟨h1, h⟩ := chk_ok h
  obtain ⟨h2, h⟩ := chk_ok h
  have hv : ∀ c : Bool, (Bool.casesOn c 41 9 : Nat) = bV !c := fun c => by cases c <;> rfl
  refine ⟨_, m, h, PStep.refl hm, by rw [hv]; exact bV_lt _, fun T s u u' _ hu hu' => ?_⟩
  obtain ⟨c, rfl, rfl⟩ := VT.bool hu h1
  obtain ⟨d, rfl, rfl⟩ := VT.bool hu' h2
  refine ⟨.bool !(c == d), by simp [bsem, eqGuard, binOp, run_equal_bool s.w t c d ht], ?_⟩
  have : Nat.beq (bV c) (bV d) = (c == d) := by cases c <;> cases d <;> rfl
  rw [hv, this]
  exact VT.mk_bool _

theorem VT.nilSl {s : St} {T : List Nat} {u : Value} (x : VT P hole s T 13 u) : u = .slice none 0 0 := by
  have y : VR P hole s 13 u := VR.of_VT (by decide) (by decide) x
  exact y.2
theorem VT.nilPt {s : St} {T : List Nat} {u : Value} (x : VT P hole s T 11 u) : u = .pointer none := by
  have y : VR P hole s 11 u := VR.of_VT (by decide) (by decide) x
  exact y.2
theorem nilS_ok {a : Nat} {k : Bool → R} {x : Nat × Mem} (h : nilS a k = some x) :
    ∃ t, k t = some x ∧ ∀ (T : List Nat) (s : St) u, VT P hole s T a u → ∃ p l c, u = .slice p l c ∧ t = p.isNone := by
  unfold nilS at h
  cases h1 : Nat.beq a 13
  · rw [h1] at h
    refine ⟨false, ?_⟩
    cases h2 : Nat.beq (Nat.mod a 32) 12
    · simp only [h2] at h
      cases h3 : Nat.beq (Nat.mod a 32) 14
      · simp only [h3] at h
        obtain ⟨h4, h⟩ := chk_ok h
        refine ⟨h, fun T s u hu => ?_⟩
        have y : VR P hole s a u := VR.of_VT (by omega) (by omega) hu
        unfold VR at y
        simp only [h4] at y
        obtain ⟨r, c, cells, el, _, rfl, _⟩ := y
        exact ⟨_, _, _, rfl, rfl⟩
      · simp only [h3] at h
        have h4 : a % 32 = 14 := beq_t h3
        refine ⟨h, fun T s u hu => ?_⟩
        have y : VR P hole s a u := VR.of_VT (by omega) (by omega) hu
        unfold VR at y
        simp only [h4] at y
        obtain ⟨_, b, c, cells, el, _, rfl, _⟩ := y
        exact ⟨_, _, _, rfl, rfl⟩
    · simp only [h2] at h
      have h4 : a % 32 = 12 := beq_t h2
      refine ⟨h, fun T s u hu => ?_⟩
      have y : VR P hole s a u := VR.of_VT (by omega) (by omega) hu
      unfold VR at y
      simp only [h4] at y
      obtain ⟨r, _, rfl⟩ := y
      exact ⟨_, _, _, rfl, rfl⟩
  · rw [h1] at h
    have : a = 13 := beq_t h1
    subst this
    exact ⟨true, h, fun T s u hu => ⟨none, 0, 0, VT.nilSl hu, rfl⟩⟩
theorem run_equalIn_nil (w : World) (d : Nat) (t e : TypeId) (p : Option Addr) (l c : Nat) (ht : P.underlying t = some (.slice e)) :
    (Op.equalIn (d + 1) t (.slice p l c) (.slice none 0 0)).run P w = .ok p.isNone w := by
  cases p <;> simp [Op.equalIn, run_underlying ht]
theorem run_equal_nil (w : World) (t e : TypeId) (p : Option Addr) (l c : Nat) (ht : P.underlying t = some (.slice e)) :
    (Op.equal t (.slice p l c) (.slice none 0 0)).run P w = .ok p.isNone w := run_equalIn_nil w 9999 t e p l c ht
theorem eqNS_ok (t e : TypeId) (X Y : Operand) (ht : P.underlying t = some (.slice e)) : PureB P hole eqNS (bsem .eql t X Y) := by
  intro a b m kk x ha hb hm h
  obtain ⟨h1, h0⟩ := bc h
  have h1 : b = 13 := beq_t h1
  subst h1
  obtain ⟨c, h3, hn⟩ := nilS_ok (P := P) (hole := hole) h0
  refine ⟨_, m, h3, PStep.refl hm, bV_lt _, fun T s u u' _ hu hu' => ?_⟩
  obtain ⟨p, l, cc, rfl, rfl⟩ := hn T s u hu
  rw [VT.nilSl hu']
  exact ⟨.bool p.isNone, by simp [bsem, eqGuard, binOp, run_equal_nil s.w t e p l cc ht], VT.mk_bool _⟩
theorem neNS_ok (t e : TypeId) (X Y : Operand) (ht : P.underlying t = some (.slice e)) : PureB P hole neNS (bsem .neq t X Y) := by
  intro a b m kk x ha hb hm h
  obtain ⟨h1, h0⟩ := bc h
  have h1 : b = 13 := beq_t h1
  subst h1
  obtain ⟨c, h3, hn⟩ := nilS_ok (P := P) (hole := hole) h0
  have hv : ∀ c : Bool, (Bool.casesOn c 41 9 : Nat) = bV !c := fun c => by cases c <;> rfl
  refine ⟨_, m, h3, PStep.refl hm, by rw [hv]; exact bV_lt _, fun T s u u' _ hu hu' => ?_⟩
  obtain ⟨p, l, cc, rfl, rfl⟩ := hn T s u hu
  rw [VT.nilSl hu', hv]
  exact ⟨.bool !p.isNone, by simp [bsem, eqGuard, binOp, run_equal_nil s.w t e p l cc ht], VT.mk_bool _⟩
theorem VT.ptr {s : St} {T : List Nat} {e : Nat} {u : Value} (x : VT P hole s T e u) (h : e % 32 = 10) : ∃ r, s.sg (nmOf e) = some r ∧ u = .pointer (some ⟨r, offP e, none⟩) := by
  have y : VR P hole s e u := VR.of_VT (by omega) (by omega) x
  unfold VR at y
  simpa only [h] using y
theorem nilP_ok {a : Nat} {k : Bool → R} {x : Nat × Mem} (h : nilP a k = some x) :
    ∃ t, k t = some x ∧ ∀ (T : List Nat) (s : St) u, VT P hole s T a u → ∃ p, u = .pointer p ∧ t = p.isNone := by
  unfold nilP at h
  cases h1 : Nat.beq a 11
  · rw [h1] at h
    obtain ⟨h4, h⟩ := chk_ok h
    refine ⟨false, h, fun T s u hu => ?_⟩
    obtain ⟨r, _, rfl⟩ := VT.ptr hu h4
    exact ⟨_, rfl, rfl⟩
  · rw [h1] at h
    have : a = 11 := beq_t h1
    subst this
    exact ⟨true, h, fun T s u hu => ⟨none, VT.nilPt hu, rfl⟩⟩
theorem run_equalIn_nilP (w : World) (d : Nat) (t e : TypeId) (p : Option Addr) (ht : P.underlying t = some (.pointer e)) :
    (Op.equalIn (d + 1) t (.pointer p) (.pointer none)).run P w = .ok p.isNone w := by
  cases p <;> simp [Op.equalIn, run_underlying ht]
theorem run_equal_nilP (w : World) (t e : TypeId) (p : Option Addr) (ht : P.underlying t = some (.pointer e)) :
    (Op.equal t (.pointer p) (.pointer none)).run P w = .ok p.isNone w := run_equalIn_nilP w 9999 t e p ht
theorem eqNP_ok (t e : TypeId) (X Y : Operand) (ht : P.underlying t = some (.pointer e)) : PureB P hole eqNP (bsem .eql t X Y) := by
  intro a b m kk x ha hb hm h
  obtain ⟨h1, h0⟩ := bc h
  have h1 : b = 11 := beq_t h1
  subst h1
  obtain ⟨c, h3, hn⟩ := nilP_ok (P := P) (hole := hole) h0
  refine ⟨_, m, h3, PStep.refl hm, bV_lt _, fun T s u u' _ hu hu' => ?_⟩
  obtain ⟨p, rfl, rfl⟩ := hn T s u hu
  rw [VT.nilPt hu']
  exact ⟨.bool p.isNone, by simp [bsem, eqGuard, binOp, run_equal_nilP s.w t e p ht], VT.mk_bool _⟩
theorem neNP_ok (t e : TypeId) (X Y : Operand) (ht : P.underlying t = some (.pointer e)) : PureB P hole neNP (bsem .neq t X Y) := by
  intro a b m kk x ha hb hm h
  obtain ⟨h1, h0⟩ := bc h
  have h1 : b = 11 := beq_t h1
  subst h1
  obtain ⟨c, h3, hn⟩ := nilP_ok (P := P) (hole := hole) h0
  have hv : ∀ c : Bool, (Bool.casesOn c 41 9 : Nat) = bV !c := fun c => by cases c <;> rfl
  refine ⟨_, m, h3, PStep.refl hm, by rw [hv]; exact bV_lt _, fun T s u u' _ hu hu' => ?_⟩
  obtain ⟨p, rfl, rfl⟩ := hn T s u hu
  rw [VT.nilPt hu', hv]
  exact ⟨.bool !p.isNone, by simp [bsem, eqGuard, binOp, run_equal_nilP s.w t e p ht], VT.mk_bool _⟩

/-! ### a value handed on; not; picking -/
theorem idK_ok : PureU P hole idK (fun u => pure u) := fun e m _ _ he hm h => ⟨e, m, h, PStep.refl hm, he, fun _ _ u _ hu => ⟨u, rfl, hu⟩⟩
theorem notB_ok : PureU P hole notB (Op.unary .not) := by
  intro e m kk x he hm h
  unfold notB at h
  cases h1 : Nat.beq e 9
  · rw [h1] at h
    obtain ⟨h2, h⟩ := bc h
    have : e = 41 := beq_t h2
    subst this
    refine ⟨9, m, h, PStep.refl hm, bV_lt false, fun T s u _ hu => ?_⟩
    obtain ⟨b, rfl, hb⟩ := VT.bool hu rfl
    cases b
    · exact absurd hb (by decide)
    · exact ⟨.bool false, rfl, VT.mk_bool false⟩
  · rw [h1] at h
    have : e = 9 := beq_t h1
    subst this
    refine ⟨41, m, h, PStep.refl hm, bV_lt true, fun T s u _ hu => ?_⟩
    obtain ⟨b, rfl, hb⟩ := VT.bool hu rfl
    cases b
    · exact ⟨.bool true, rfl, VT.mk_bool true⟩
    · exact absurd hb (by decide)
theorem cplI_ok : PureU P hole (cplI 5 8192) (Op.unary .xor) := by
  intro e m kk x he hm h
  obtain ⟨h1, h⟩ := chk_ok h
  have e0 : Nat.sub (Nat.add (Nat.add 5 5) (Nat.sub 8192 32)) e = 8170 - e := rfl
  refine ⟨_, m, h, PStep.refl hm, by rw [e0]; exact lt_cB (Nat.lt_of_le_of_lt (Nat.sub_le _ _) (by decide +kernel)), fun T s u _ hu => ?_⟩
  obtain ⟨h2, rfl⟩ := VT.int (k := .u8) hu h1
  have h2 : e / 32 < 256 := h2
  rw [toI_pos (k := .u8) h2]
  refine ⟨.int .u8 (255 - e / 32 : Nat), ?_, ?_⟩
  · generalize e / 32 = p at h2
    have : ∀ p : Fin 256, Op.unary .xor (.int .u8 (p.val : Int)) = (pure (.int .u8 ((255 - p.val : Nat) : Int)) : Sem Value) := by
      intro p
      show (pure (.int .u8 _) : Sem Value) = _
      congr 2
      revert p
      decide +kernel
    rw [this ⟨p, h2⟩]
    rfl
  · rw [e0, show 8170 - e = 5 + 32 * (255 - e / 32) by omega]
    have := VT.mk_int (P := P) (hole := hole) (s := s) (T := T) (k := .u8) (p := 255 - e / 32) (show _ < 256 by omega)
    rw [toI_pos (k := .u8) (show _ < 256 by omega)] at this
    exact this
end
end Go.Proofs.YgvaqwGreat.Ev
