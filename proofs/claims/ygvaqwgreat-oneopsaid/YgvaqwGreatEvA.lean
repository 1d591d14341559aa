/- Packed cells: a natural number holds cells of 320 bits each. Plain arithmetic, nothing of Go. -/
set_option exponentiation.threshold 400
namespace Go.Proofs.YgvaqwGreat.Ev

/-- 2 ^ 320 -/
def cB : Nat := 2135987035920910082395021706169552114602704522356652769947041607822219725780640550022962086936576
theorem cB_eq : cB = 2 ^ 320 := by decide +kernel

def pgS (N s : Nat) : Nat := Nat.mod (Nat.shiftRight N s) 2135987035920910082395021706169552114602704522356652769947041607822219725780640550022962086936576
def psS (N s v : Nat) : Nat := Nat.xor N (Nat.shiftLeft (Nat.xor (Nat.mod (Nat.shiftRight N s) 2135987035920910082395021706169552114602704522356652769947041607822219725780640550022962086936576) v) s)
def pg (N i : Nat) : Nat := pgS N (Nat.mul 320 i)
def ps (N i v : Nat) : Nat := psS N (Nat.mul 320 i) v
def rgN (N off n : Nat) : Nat := Nat.mod (Nat.shiftRight N (Nat.mul 320 off)) (Nat.shiftLeft 1 (Nat.mul 320 n))
def rp (N off n p : Nat) : Nat := Nat.xor N (Nat.shiftLeft (Nat.xor (rgN N off n) p) (Nat.mul 320 off))

theorem pgS_eq (N s : Nat) : pgS N s = (N >>> s) % 2 ^ 320 := by
  show (N >>> s) % _ = _
  rw [← cB_eq]; rfl
theorem pg_eq (N i : Nat) : pg N i = (N >>> (320 * i)) % 2 ^ 320 := pgS_eq N (320 * i)
theorem psS_eq (N s v : Nat) : psS N s v = N ^^^ (((N >>> s) % 2 ^ 320 ^^^ v) <<< s) := by
  show N ^^^ (((N >>> s) % _ ^^^ v) <<< s) = _
  rw [← cB_eq]; rfl
theorem ps_eq (N i v : Nat) : ps N i v = N ^^^ ((pg N i ^^^ v) <<< (320 * i)) := by
  rw [pg_eq]; exact psS_eq N (320 * i) v
theorem rgN_eq (N off n : Nat) : rgN N off n = (N >>> (320 * off)) % 2 ^ (320 * n) := by
  show (N >>> (320 * off)) % (1 <<< (320 * n)) = _
  rw [Nat.one_shiftLeft]
theorem rp_eq (N off n p : Nat) : rp N off n p = N ^^^ ((rgN N off n ^^^ p) <<< (320 * off)) := rfl

theorem pg_lt (N i : Nat) : pg N i < cB := by rw [pg_eq, cB_eq]; exact Nat.mod_lt _ (Nat.two_pow_pos _)
theorem rgN_lt (N off n : Nat) : rgN N off n < 2 ^ (320 * n) := by rw [rgN_eq]; exact Nat.mod_lt _ (Nat.two_pow_pos _)

theorem bit_pg (N i b : Nat) : (pg N i).testBit b = (decide (b < 320) && N.testBit (320 * i + b)) := by
  rw [pg_eq, Nat.testBit_mod_two_pow, Nat.testBit_shiftRight]
theorem bit_rgN (N off n b : Nat) : (rgN N off n).testBit b = (decide (b < 320 * n) && N.testBit (320 * off + b)) := by
  rw [rgN_eq, Nat.testBit_mod_two_pow, Nat.testBit_shiftRight]

theorem bit_hi {N n b : Nat} (h : N < 2 ^ n) (hb : n ≤ b) : N.testBit b = false :=
  Nat.testBit_lt_two_pow (Nat.lt_of_lt_of_le h (Nat.pow_le_pow_right (by omega) hb))

theorem pg_rp {N off n p : Nat} (hp : p < 2 ^ (320 * n)) (i : Nat) :
    pg (rp N off n p) i = if off ≤ i ∧ i < off + n then pg p (i - off) else pg N i := by
  apply Nat.eq_of_testBit_eq
  intro b
  rw [bit_pg]
  by_cases hb : b < 320
  · simp only [hb, decide_true, Bool.true_and]
    rw [rp_eq, Nat.testBit_xor, Nat.testBit_shiftLeft, Nat.testBit_xor, bit_rgN]
    by_cases h : off ≤ i ∧ i < off + n
    · rw [if_pos h, bit_pg]
      have e1 : 320 * off ≤ 320 * i + b := by omega
      have e2 : 320 * i + b - 320 * off < 320 * n := by omega
      have e3 : 320 * off + (320 * i + b - 320 * off) = 320 * i + b := by omega
      have e4 : 320 * (i - off) + b = 320 * i + b - 320 * off := by omega
      simp only [e1, e2, e3, hb, decide_true, Bool.true_and]
      rw [e4, ← Bool.xor_assoc, Bool.xor_self, Bool.false_xor]
    · rw [if_neg h, bit_pg]
      simp only [hb, decide_true, Bool.true_and]
      by_cases h1 : i < off
      · have e1 : ¬ 320 * off ≤ 320 * i + b := by omega
        simp [e1]
      · have e2 : ¬ 320 * i + b - 320 * off < 320 * n := by omega
        have e5 : p.testBit (320 * i + b - 320 * off) = false := bit_hi hp (by omega)
        simp [e2, e5]
  · have hz : ∀ M j, (pg M j).testBit b = false := fun M j => by rw [bit_pg]; simp [hb]
    simp only [hb, decide_false, Bool.false_and]
    split <;> rw [hz]

theorem ps_rp (N i v : Nat) : ps N i v = rp N i 1 v := by
  rw [ps_eq, rp_eq, rgN_eq, pg_eq]

theorem pg_ps {N i v : Nat} (hv : v < cB) (j : Nat) : pg (ps N i v) j = if j = i then v else pg N j := by
  have hv' : v < 2 ^ (320 * 1) := by rw [cB_eq] at hv; simpa using hv
  rw [ps_rp, pg_rp hv']
  by_cases h : j = i
  · subst h
    rw [if_pos ⟨Nat.le_refl _, by omega⟩, if_pos rfl, Nat.sub_self, pg_eq]
    simp only [Nat.mul_zero, Nat.shiftRight_zero]
    rw [cB_eq] at hv
    exact Nat.mod_eq_of_lt hv
  · rw [if_neg (by omega), if_neg h]

theorem pg_rgN {N off n j : Nat} (h : j < n) : pg (rgN N off n) j = pg N (off + j) := by
  apply Nat.eq_of_testBit_eq
  intro b
  rw [bit_pg, bit_pg, bit_rgN]
  by_cases hb : b < 320
  · have e1 : 320 * j + b < 320 * n := by omega
    have e2 : 320 * off + (320 * j + b) = 320 * (off + j) + b := by omega
    simp [hb, e1, e2]
  · simp [hb]

theorem pg_hi {N n i : Nat} (h : N < 2 ^ (320 * n)) (hi : n ≤ i) : pg N i = 0 := by
  apply Nat.eq_of_testBit_eq
  intro b
  rw [bit_pg, bit_hi h (by omega)]
  simp

theorem lt_of_bits {N n : Nat} (h : ∀ b, n ≤ b → N.testBit b = false) : N < 2 ^ n := Nat.lt_pow_two_of_testBit N h

theorem rp_lt {N off n p M : Nat} (hN : N < 2 ^ (320 * M)) (hp : p < 2 ^ (320 * n)) (h : off + n ≤ M) : rp N off n p < 2 ^ (320 * M) := by
  apply lt_of_bits
  intro b hb
  rw [rp_eq, Nat.testBit_xor, Nat.testBit_shiftLeft, Nat.testBit_xor, bit_rgN, bit_hi hN hb]
  have e1 : ¬ b - 320 * off < 320 * n := by omega
  have e2 : p.testBit (b - 320 * off) = false := bit_hi hp (by omega)
  simp [e1, e2]

theorem ps_lt {N i v M : Nat} (hN : N < 2 ^ (320 * M)) (hv : v < cB) (h : i < M) : ps N i v < 2 ^ (320 * M) := by
  rw [ps_rp]
  exact rp_lt hN (by rw [cB_eq] at hv; simpa using hv) (by omega)

/-- a cell laid before others -/
theorem pg_cons_zero {a r : Nat} (ha : a < cB) : pg (a + cB * r) 0 = a := by
  rw [pg_eq]
  simp only [Nat.mul_zero, Nat.shiftRight_zero]
  rw [← cB_eq, Nat.add_mul_mod_self_left]
  exact Nat.mod_eq_of_lt ha

theorem pg_cons_succ {a r : Nat} (ha : a < cB) (i : Nat) : pg (a + cB * r) (i + 1) = pg r i := by
  rw [pg_eq, pg_eq]
  have e : 320 * (i + 1) = 320 + 320 * i := by omega
  rw [e, Nat.shiftRight_add]
  congr 2
  rw [Nat.shiftRight_eq_div_pow, ← cB_eq, Nat.add_mul_div_left _ _ (by rw [cB_eq]; exact Nat.two_pow_pos _), Nat.div_eq_of_lt ha, Nat.zero_add]

theorem cons_lt {a r n : Nat} (ha : a < cB) (hr : r < 2 ^ (320 * n)) : a + cB * r < 2 ^ (320 * (n + 1)) := by
  have e : 320 * (n + 1) = 320 + 320 * n := by omega
  rw [e, Nat.pow_add, ← cB_eq]
  calc a + cB * r < cB + cB * r := by omega
    _ = cB * (r + 1) := by rw [Nat.mul_add, Nat.mul_one, Nat.add_comm]
    _ ≤ cB * 2 ^ (320 * n) := Nat.mul_le_mul_left _ hr

/-- cells laid behind others -/
theorem pg_append {a b k : Nat} (ha : a < 2 ^ (320 * k)) (i : Nat) : pg (a + b <<< (320 * k)) i = if i < k then pg a i else pg b (i - k) := by
  have e : a + b <<< (320 * k) = b <<< (320 * k) ||| a := by
    rw [Nat.add_comm, Nat.shiftLeft_add_eq_or_of_lt ha]
  rw [e]
  apply Nat.eq_of_testBit_eq
  intro c
  rw [bit_pg, Nat.testBit_or, Nat.testBit_shiftLeft]
  by_cases hc : c < 320
  · by_cases h : i < k
    · rw [if_pos h, bit_pg]
      have : ¬ 320 * k ≤ 320 * i + c := by omega
      simp [hc, this]
    · rw [if_neg h, bit_pg]
      have e1 : 320 * k ≤ 320 * i + c := by omega
      have e2 : a.testBit (320 * i + c) = false := bit_hi ha (by omega)
      have e3 : 320 * i + c - 320 * k = 320 * (i - k) + c := by omega
      simp [hc, e1, e2, e3]
  · have hz : ∀ M j, (pg M j).testBit c = false := fun M j => by rw [bit_pg]; simp [hc]
    split <;> simp [hc, hz]

theorem append_lt {a b k n : Nat} (ha : a < 2 ^ (320 * k)) (hb : b < 2 ^ (320 * n)) : a + b <<< (320 * k) < 2 ^ (320 * (k + n)) := by
  rw [Nat.shiftLeft_eq]
  have e : 320 * (k + n) = 320 * n + 320 * k := by omega
  rw [e, Nat.pow_add]
  calc a + b * 2 ^ (320 * k) < 2 ^ (320 * k) + b * 2 ^ (320 * k) := by omega
    _ = (b + 1) * 2 ^ (320 * k) := by rw [Nat.add_mul, Nat.one_mul, Nat.add_comm]
    _ ≤ 2 ^ (320 * n) * 2 ^ (320 * k) := Nat.mul_le_mul_right _ hb

theorem rgN_zero (N off : Nat) : rgN N off 0 = 0 := by
  have := rgN_lt N off 0
  simp at this
  exact this

/-- equal cells, equal numbers -/
theorem eq_of_pg {a b n : Nat} (ha : a < 2 ^ (320 * n)) (hb : b < 2 ^ (320 * n)) (h : ∀ i, i < n → pg a i = pg b i) : a = b := by
  apply Nat.eq_of_testBit_eq
  intro c
  by_cases hc : c < 320 * n
  · have := congrArg (fun x => x.testBit (c % 320)) (h (c / 320) (by omega))
    simp only [bit_pg] at this
    have e1 : c % 320 < 320 := Nat.mod_lt _ (by omega)
    have e2 : 320 * (c / 320) + c % 320 = c := by omega
    simpa [e1, e2] using this
  · rw [bit_hi ha (by omega), bit_hi hb (by omega)]

end Go.Proofs.YgvaqwGreat.Ev
