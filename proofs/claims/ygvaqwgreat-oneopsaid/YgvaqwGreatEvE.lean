/- The evaluator's operations against the model's: arithmetic and comparisons. -/
import Derived.Test.YgvaqwGreatEvD
set_option exponentiation.threshold 400
namespace Go.Proofs.YgvaqwGreat.Ev
open Go

/-- an operation on one value that touches no memory -/
def PureU (P : Program) (hole : Nat) (g : Nat → Mem → KV → R) (f : Value → Sem Value) : Prop :=
  ∀ e m k x, e < cB → MOK m → g e m k = some x → ∃ v m', k v m' = some x ∧ PStep m m' ∧ v < cB ∧
    ∀ (T : List Nat) (s : St) u, Suf m'.ag T → VT P hole s T e u → ∃ v', (f u).run P s.w = .ok v' s.w ∧ VT P hole s T v v'
/-- an operation on two -/
def PureB (P : Program) (hole : Nat) (g : Nat → Nat → Mem → KV → R) (f : Value → Value → Sem Value) : Prop :=
  ∀ a b m k x, a < cB → b < cB → MOK m → g a b m k = some x → ∃ v m', k v m' = some x ∧ PStep m m' ∧ v < cB ∧
    ∀ (T : List Nat) (s : St) u u', Suf m'.ag T → VT P hole s T a u → VT P hole s T b u' → ∃ v', (f u u').run P s.w = .ok v' s.w ∧ VT P hole s T v v'

def bsem (op : BinOp) (t : TypeId) (X Y : Operand) (u u' : Value) : Sem Value := do eqGuard op t X Y u u'; binOp op t u u'

section
variable {P : Program} {hole : Nat}

/-- both operands are integers of the kind -/
theorem pureB_chk (k : IntKind) {F : Nat → Nat → Nat} {f : Value → Value → Sem Value}
    (hlt : ∀ a b, a < cB → b < cB → a % 32 = ktag k → b % 32 = ktag k → F a b < cB)
    (hs : ∀ p q (s : St) (T : List Nat), p < kmod k → q < kmod k → ∃ v', (f (.int k (toI k p)) (.int k (toI k q))).run P s.w = .ok v' s.w ∧ VT P hole s T (F (ktag k + 32 * p) (ktag k + 32 * q)) v') :
    PureB P hole (fun a b m kk => chk a (ktag k) (chk b (ktag k) (kk (F a b) m))) f := by
  intro a b m kk x ha hb hm h
  obtain ⟨h1, h⟩ := chk_ok h
  obtain ⟨h2, h⟩ := chk_ok h
  refine ⟨_, m, h, PStep.refl hm, hlt a b ha hb h1 h2, fun T s u u' _ hu hu' => ?_⟩
  obtain ⟨h3, rfl⟩ := VT.int hu h1
  obtain ⟨h4, rfl⟩ := VT.int hu' h2
  obtain ⟨v', e1, e2⟩ := hs (a / 32) (b / 32) s T h3 h4
  have e3 : ktag k + 32 * (a / 32) = a := by omega
  have e4 : ktag k + 32 * (b / 32) = b := by omega
  rw [e3, e4] at e2
  exact ⟨v', e1, e2⟩

theorem kM_lt (k : IntKind) (t n : Nat) (ht : t ≤ 8) : t + n % kM k < cB := by
  have h1 := kmod_bd k
  have h2 : n % kM k < kM k := Nat.mod_lt _ (by unfold kM; omega)
  refine lt_cB (Nat.lt_trans (m := 2 ^ 80) ?_ (Nat.pow_lt_pow_right (by omega) (by omega)))
  unfold kM at *
  omega

theorem addI_ok (k : IntKind) (t : TypeId) (X Y : Operand) : PureB P hole (addI (ktag k) (kM k)) (bsem .add t X Y) := by
  refine pureB_chk k (F := fun a b => ktag k + (a + b - (ktag k + ktag k)) % kM k) (fun a b _ _ _ _ => kM_lt k _ _ (ktag_lt k).2) fun p q s T hp hq => ?_
  refine ⟨.int k (k.wrap (toI k p + toI k q)), by simp [bsem, eqGuard, binOp, Op.intArith], ?_⟩
  have e : ktag k + (ktag k + 32 * p + (ktag k + 32 * q) - (ktag k + ktag k)) % kM k = ktag k + 32 * ((p + q) % kmod k) := by
    cases k <;> simp only [ktag, kM, kmod] <;> omega
  rw [e, wrap_add hp hq]
  exact VT.mk_int (Nat.mod_lt _ (by have := kmod_bd k; omega))
theorem subI_ok (k : IntKind) (t : TypeId) (X Y : Operand) : PureB P hole (subI (ktag k) (kM k)) (bsem .sub t X Y) := by
  refine pureB_chk k (F := fun a b => ktag k + (a + kM k - b) % kM k) (fun a b _ _ _ _ => kM_lt k _ _ (ktag_lt k).2) fun p q s T hp hq => ?_
  refine ⟨.int k (k.wrap (toI k p - toI k q)), by simp [bsem, eqGuard, binOp, Op.intArith], ?_⟩
  have e : ktag k + (ktag k + 32 * p + kM k - (ktag k + 32 * q)) % kM k = ktag k + 32 * ((p + kmod k - q) % kmod k) := by
    cases k <;> simp only [ktag, kM, kmod] at * <;> omega
  rw [e, wrap_sub hp hq]
  exact VT.mk_int (Nat.mod_lt _ (by have := kmod_bd k; omega))
theorem mulI_ok (k : IntKind) (t : TypeId) (X Y : Operand) : PureB P hole (mulI (ktag k) (kM k)) (bsem .mul t X Y) := by
  refine pureB_chk k (F := fun a b => ktag k + ((a - ktag k) * (b / 32)) % kM k) (fun a b _ _ _ _ => kM_lt k _ _ (ktag_lt k).2) fun p q s T hp hq => ?_
  refine ⟨.int k (k.wrap (toI k p * toI k q)), by simp [bsem, eqGuard, binOp, Op.intArith], ?_⟩
  have h1 := ktag_lt k
  have e0 : (ktag k + 32 * q) / 32 = q := by omega
  have e1 : ktag k + 32 * p - ktag k = 32 * p := by omega
  have e : ktag k + ((ktag k + 32 * p - ktag k) * ((ktag k + 32 * q) / 32)) % kM k = ktag k + 32 * ((p * q) % kmod k) := by
    rw [e0, e1, Nat.mul_assoc]
    unfold kM
    rw [Nat.mul_mod_mul_left]
  rw [e, wrap_mul hp hq]
  exact VT.mk_int (Nat.mod_lt _ (by have := kmod_bd k; omega))

theorem cmp_aux {k : IntKind} (F : Nat → Nat → Bool) (f : Value → Value → Sem Value)
    (hs : ∀ p q (w : World), p < kmod k → q < kmod k → (f (.int k (toI k p)) (.int k (toI k q))).run P w = .ok (.bool (F (ktag k + 32 * p) (ktag k + 32 * q))) w) :
    PureB P hole (fun a b m kk => chk a (ktag k) (chk b (ktag k) (kk (bV (F a b)) m))) f :=
  pureB_chk k (fun _ _ _ _ _ _ => bV_lt _) fun p q s _ hp hq => ⟨_, hs p q s.w hp hq, VT.mk_bool _⟩

theorem enc_eq {t p q : Nat} : (t + 32 * p = t + 32 * q) ↔ p = q := by omega
theorem eqI_ok (k : IntKind) (t : TypeId) (X Y : Operand) : PureB P hole (eqI (ktag k)) (bsem .eql t X Y) := by
  refine cmp_aux (fun a b => Nat.beq a b) _ fun p q w hp hq => ?_
  simp only [bsem, eqGuard, binOp, Op.intCmp]
  have e : (toI k p == toI k q) = Nat.beq (ktag k + 32 * p) (ktag k + 32 * q) := by
    rw [Bool.eq_iff_iff, Nat.beq_eq, enc_eq, beq_iff_eq, toI_inj hp hq]
  simp [e]
theorem neI_ok (k : IntKind) (t : TypeId) (X Y : Operand) : PureB P hole (neI (ktag k)) (bsem .neq t X Y) := by
  have : neI (ktag k) = fun a b m kk => chk a (ktag k) (chk b (ktag k) (kk (bV (!Nat.beq a b)) m)) := by
    funext a b m kk
    unfold neI
    cases Nat.beq a b <;> rfl
  rw [this]
  refine cmp_aux (fun a b => !Nat.beq a b) _ fun p q w hp hq => ?_
  simp only [bsem, eqGuard, binOp, Op.intCmp]
  have e : (toI k p != toI k q) = !Nat.beq (ktag k + 32 * p) (ktag k + 32 * q) := by
    rw [bne]
    congr 1
    rw [Bool.eq_iff_iff, Nat.beq_eq, enc_eq, beq_iff_eq, toI_inj hp hq]
  simp [e]

theorem leU_ok (k : IntKind) (hu : unsg k = true) (t : TypeId) (X Y : Operand) : PureB P hole (leU (ktag k)) (bsem .leq t X Y) := by
  refine cmp_aux (fun a b => Nat.ble a b) _ fun p q w hp hq => ?_
  simp only [bsem, eqGuard, binOp, Op.intCmp]
  have e : decide (toI k p ≤ toI k q) = Nat.ble (ktag k + 32 * p) (ktag k + 32 * q) := by
    obtain ⟨h1, h2, _⟩ := unsg_pos hu
    rw [Bool.eq_iff_iff, Nat.ble_eq, decide_eq_true_iff, toI_pos (by omega), toI_pos (by omega)]
    omega
  simp [e]
theorem ltU_ok (k : IntKind) (hu : unsg k = true) (t : TypeId) (X Y : Operand) : PureB P hole (ltU (ktag k)) (bsem .lss t X Y) := by
  refine cmp_aux (fun a b => Nat.ble (Nat.succ a) b) _ fun p q w hp hq => ?_
  simp only [bsem, eqGuard, binOp, Op.intCmp]
  have e : decide (toI k p < toI k q) = Nat.ble (Nat.succ (ktag k + 32 * p)) (ktag k + 32 * q) := by
    obtain ⟨h1, h2, _⟩ := unsg_pos hu
    rw [Bool.eq_iff_iff, Nat.ble_eq, decide_eq_true_iff, toI_pos (by omega), toI_pos (by omega)]
    omega
  simp [e]
theorem leS_ok (k : IntKind) (t : TypeId) (X Y : Operand) : PureB P hole (leS (ktag k) (kH k) (kM k)) (bsem .leq t X Y) := by
  refine cmp_aux (fun a b => Nat.ble ((a + kH k) % kM k) ((b + kH k) % kM k)) _ fun p q w hp hq => ?_
  simp only [bsem, eqGuard, binOp, Op.intCmp]
  have hk := ktag_lt k
  have e : decide (toI k p ≤ toI k q) = Nat.ble ((ktag k + 32 * p + kH k) % kM k) ((ktag k + 32 * q + kH k) % kM k) := by
    rw [Bool.eq_iff_iff, Nat.ble_eq, decide_eq_true_iff, toI_le hp hq, sgn_enc (by omega) (by omega), sgn_enc (by omega) (by omega)]
    rw [show (ktag k + 32 * p) / 32 = p by omega, show (ktag k + 32 * q) / 32 = q by omega]
    omega
  simp [e]
theorem ltS_ok (k : IntKind) (t : TypeId) (X Y : Operand) : PureB P hole (ltS (ktag k) (kH k) (kM k)) (bsem .lss t X Y) := by
  refine cmp_aux (fun a b => Nat.ble (Nat.succ ((a + kH k) % kM k)) ((b + kH k) % kM k)) _ fun p q w hp hq => ?_
  simp only [bsem, eqGuard, binOp, Op.intCmp]
  have hk := ktag_lt k
  have e : decide (toI k p < toI k q) = Nat.ble (Nat.succ ((ktag k + 32 * p + kH k) % kM k)) ((ktag k + 32 * q + kH k) % kM k) := by
    rw [Bool.eq_iff_iff, Nat.ble_eq, decide_eq_true_iff, toI_lt hp hq, sgn_enc (by omega) (by omega), sgn_enc (by omega) (by omega)]
    rw [show (ktag k + 32 * p) / 32 = p by omega, show (ktag k + 32 * q) / 32 = q by omega]
    omega
  simp [e]

/-- greater is less, turned -/
theorem pureB_swap {g : Nat → Nat → Mem → KV → R} {f f' : Value → Value → Sem Value} (h : PureB P hole g f)
    (hf : ∀ u u' w v, (f u u').run P w = .ok v w → (f' u' u).run P w = .ok v w) : PureB P hole (fun a b => g b a) f' := by
  intro a b m k x ha hb hm hx
  obtain ⟨v, m', h1, h2, h3, h4⟩ := h b a m k x hb ha hm hx
  exact ⟨v, m', h1, h2, h3, fun T s u u' hT hu hu' => let ⟨v', e1, e2⟩ := h4 T s u' u hT hu' hu; ⟨v', hf _ _ _ _ e1, e2⟩⟩

/-- division and remainder of numbers that are not negative -/
theorem divI_ok (k : IntKind) (t : TypeId) (X Y : Operand) : PureB P hole (divI (ktag k) (kpos k)) (bsem .quo t X Y) := by
  intro a b m kk x ha hb hm h
  obtain ⟨h1, h⟩ := chk_ok h
  obtain ⟨h2, h⟩ := chk_ok h
  obtain ⟨h3, h⟩ := bc h
  obtain ⟨h4, h⟩ := bc h
  obtain ⟨h5, h⟩ := bcn h
  have h3 : a / 32 + 1 ≤ kpos k := ble_t h3
  have h4 : b / 32 + 1 ≤ kpos k := ble_t h4
  have h5 : b ≠ ktag k := beq_f h5
  have hk := ktag_lt k
  have hp := kpos_le k
  have hq : a / 32 / (b / 32) ≤ a / 32 := Nat.div_le_self _ _
  refine ⟨_, m, h, PStep.refl hm, int_lt_cB (k := k) (p := a / 32 / (b / 32)) (by omega), fun T s u u' _ hu hu' => ?_⟩
  obtain ⟨_, rfl⟩ := VT.int hu h1
  obtain ⟨_, rfl⟩ := VT.int hu' h2
  refine ⟨.int k (k.wrap ((toI k (a / 32)).tdiv (toI k (b / 32)))), ?_, ?_⟩
  · have hne : ¬ toI k (b / 32) = 0 := by rw [toI_pos (by omega)]; omega
    simp [bsem, eqGuard, binOp, Op.intDiv, hne]
  · rw [toI_pos (by omega), toI_pos (by omega), ← Int.ofNat_tdiv]
    have e : k.wrap ((a / 32 / (b / 32) : Nat) : Int) = toI k (a / 32 / (b / 32)) := by
      rw [wrap_eq]
      congr 1
      show a / 32 / (b / 32) % kmod k = _
      exact Nat.mod_eq_of_lt (by omega)
    rw [e]
    exact VT.mk_int (k := k) (p := a / 32 / (b / 32)) (by omega)
theorem remI_ok (k : IntKind) (t : TypeId) (X Y : Operand) : PureB P hole (remI (ktag k) (kpos k)) (bsem .rem t X Y) := by
  intro a b m kk x ha hb hm h
  obtain ⟨h1, h⟩ := chk_ok h
  obtain ⟨h2, h⟩ := chk_ok h
  obtain ⟨h3, h⟩ := bc h
  obtain ⟨h4, h⟩ := bc h
  obtain ⟨h5, h⟩ := bcn h
  have h3 : a / 32 + 1 ≤ kpos k := ble_t h3
  have h4 : b / 32 + 1 ≤ kpos k := ble_t h4
  have h5 : b ≠ ktag k := beq_f h5
  have hk := ktag_lt k
  have hp := kpos_le k
  have hq : a / 32 % (b / 32) ≤ a / 32 := Nat.mod_le _ _
  refine ⟨_, m, h, PStep.refl hm, int_lt_cB (k := k) (p := a / 32 % (b / 32)) (by omega), fun T s u u' _ hu hu' => ?_⟩
  obtain ⟨_, rfl⟩ := VT.int hu h1
  obtain ⟨_, rfl⟩ := VT.int hu' h2
  refine ⟨.int k ((toI k (a / 32)).tmod (toI k (b / 32))), ?_, ?_⟩
  · have hne : ¬ toI k (b / 32) = 0 := by rw [toI_pos (by omega)]; omega
    simp [bsem, eqGuard, binOp, Op.intDiv, hne]
  · rw [toI_pos (by omega), toI_pos (by omega), ← Int.ofNat_tmod, ← toI_pos (k := k) (by omega)]
    exact VT.mk_int (k := k) (p := a / 32 % (b / 32)) (by omega)

/-- bit by bit, unsigned -/
theorem bits_aux (k : IntKind) (hu : unsg k = true) (op : BinOp) (F : Nat → Nat → Nat) (t : TypeId) (X Y : Operand)
    (hF : ∀ n p q, p < 2 ^ n → q < 2 ^ n → F p q < 2 ^ n)
    (hs : ∀ p q (w : World), p < kmod k → q < kmod k → (bsem op t X Y (.int k p) (.int k q)).run P w = .ok (.int k (k.wrap (F p q : Nat))) w) :
    PureB P hole (fun a b m kk => chk a (ktag k) (chk b (ktag k) (kk (ktag k + 32 * F (a / 32) (b / 32)) m))) (bsem op t X Y) := by
  obtain ⟨h1, h2, _⟩ := unsg_pos hu
  have hk := ktag_lt k
  refine pureB_chk k (F := fun a b => ktag k + 32 * F (a / 32) (b / 32)) (fun a b ha hb _ _ => ?_) fun p q s T hp hq => ?_
  · have e : (2 : Nat) ^ 320 = 32 * 2 ^ 315 := by decide +kernel
    rw [cB_eq, e] at *
    have := hF 315 (a / 32) (b / 32) (by omega) (by omega)
    omega
  · have e1 : (ktag k + 32 * p) / 32 = p := by omega
    have e2 : (ktag k + 32 * q) / 32 = q := by omega
    have hb := bits_pow k
    have h3 : F p q < kmod k := by rw [← hb]; exact hF _ p q (by rw [hb]; exact hp) (by rw [hb]; exact hq)
    refine ⟨_, by rw [toI_pos (by omega), toI_pos (by omega)]; exact hs p q s.w hp hq, ?_⟩
    simp only [e1, e2]
    have e : k.wrap ((F p q : Nat) : Int) = toI k (F p q) := by
      rw [wrap_eq]
      congr 1
      show F p q % kmod k = _
      exact Nat.mod_eq_of_lt h3
    rw [e]
    exact VT.mk_int h3
theorem ofInt_nat (n p : Nat) : BitVec.ofInt n (p : Int) = BitVec.ofNat n p := by
  apply BitVec.eq_of_toNat_eq
  simp [BitVec.toNat_ofNat]
theorem andI_ok (k : IntKind) (hu : unsg k = true) (t : TypeId) (X Y : Operand) : PureB P hole (andI (ktag k)) (bsem .and t X Y) := by
  refine bits_aux k hu .and (fun p q => p &&& q) t X Y (fun n p q hp _ => Nat.and_lt_two_pow _ (by assumption)) fun p q w hp hq => ?_
  have hb := bits_pow k
  simp only [bsem, eqGuard, binOp, Op.intBits, ofInt_nat]
  rw [← hb] at hp hq
  simp [BitVec.toNat_and, BitVec.toNat_ofNat, Nat.mod_eq_of_lt hp, Nat.mod_eq_of_lt hq]
theorem orI_ok (k : IntKind) (hu : unsg k = true) (t : TypeId) (X Y : Operand) : PureB P hole (orI (ktag k)) (bsem .or t X Y) := by
  refine bits_aux k hu .or (fun p q => p ||| q) t X Y (fun n p q hp hq => Nat.or_lt_two_pow hp hq) fun p q w hp hq => ?_
  have hb := bits_pow k
  simp only [bsem, eqGuard, binOp, Op.intBits, ofInt_nat]
  rw [← hb] at hp hq
  simp [BitVec.toNat_or, BitVec.toNat_ofNat, Nat.mod_eq_of_lt hp, Nat.mod_eq_of_lt hq]
theorem xorI_ok (k : IntKind) (hu : unsg k = true) (t : TypeId) (X Y : Operand) : PureB P hole (xorI (ktag k)) (bsem .xor t X Y) := by
  refine bits_aux k hu .xor (fun p q => p ^^^ q) t X Y (fun n p q hp hq => Nat.xor_lt_two_pow hp hq) fun p q w hp hq => ?_
  have hb := bits_pow k
  simp only [bsem, eqGuard, binOp, Op.intBits, ofInt_nat]
  rw [← hb] at hp hq
  simp [BitVec.toNat_xor, BitVec.toNat_ofNat, Nat.mod_eq_of_lt hp, Nat.mod_eq_of_lt hq]
end
end Go.Proofs.YgvaqwGreat.Ev
