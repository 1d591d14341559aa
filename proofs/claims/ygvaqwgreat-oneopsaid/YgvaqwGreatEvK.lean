/- The evaluator's operations against the model's: equality of byte arrays; strings. -/
import Derived.Test.YgvaqwGreatEvJ
set_option exponentiation.threshold 400
namespace Go.Proofs.YgvaqwGreat.Ev
open Go

theorem pg_and (a b i : Nat) : pg (a &&& b) i = pg a i &&& pg b i := by
  apply Nat.eq_of_testBit_eq
  intro c
  rw [Nat.testBit_and, bit_pg, bit_pg, bit_pg, Nat.testBit_and]
  cases decide (c < 320) <;> simp
theorem pg_maskN (n i : Nat) (h : i < n) : pg (maskN n) i = 31 := by
  induction n generalizing i with
  | zero => omega
  | succ n ih =>
    show pg (31 + cB * maskN n) i = 31
    cases i with
    | zero => exact pg_cons_zero (lt_cB (by decide +kernel))
    | succ i => rw [pg_cons_succ (lt_cB (by decide +kernel))]; exact ih i (by omega)
theorem pg_patN (n i : Nat) (h : i < n) : pg (patN n) i = 5 := by
  induction n generalizing i with
  | zero => omega
  | succ n ih =>
    show pg (5 + cB * patN n) i = 5
    cases i with
    | zero => exact pg_cons_zero (lt_cB (by decide +kernel))
    | succ i => rw [pg_cons_succ (lt_cB (by decide +kernel))]; exact ih i (by omega)
theorem mask_tag {p n : Nat} (h : Nat.land p (maskN n) = patN n) {j : Nat} (hj : j < n) : pg p j % 32 = 5 := by
  have h1 : p &&& maskN n = patN n := h
  have h2 : pg (p &&& maskN n) j = pg (patN n) j := by rw [h1]
  rw [pg_and, pg_maskN n j hj, pg_patN n j hj] at h2
  have h3 := Nat.and_two_pow_sub_one_eq_mod (pg p j) 5
  simp only [show (2 : Nat) ^ 5 - 1 = 31 from rfl, show (2 : Nat) ^ 5 = 32 from rfl] at h3
  omega

section
variable {P : Program} {hole : Nat}

theorem VR.byte {s : St} {e : Nat} {u : Value} (x : VR P hole s e u) (h : e % 32 = 5) : e / 32 < 256 ∧ u = .int .u8 (e / 32 : Nat) := by
  obtain ⟨h1, h2⟩ := VT.int (T := []) (k := .u8) (VT.of_VR x) h
  exact ⟨h1, by rw [h2, toI_pos (k := .u8) h1]⟩
theorem VR.mk_byte {s : St} {p : Nat} (h : p < 256) : VR P hole s (5 + 32 * p) (.int .u8 p) := by
  have := VR.mk_int (P := P) (hole := hole) (s := s) (k := .u8) (p := p) h
  rwa [toI_pos (k := .u8) h] at this

theorem byteA_ok {n a : Nat} {m : Mem} {k : Nat → R} {x : Nat × Mem} (h : byteA n a m k = some x) (hm : MOK m) :
    ∃ p, k p = some x ∧ ∀ (T : List Nat) (s : St) u, Suf m.ag T → VT P hole s T a u → p < 2 ^ (320 * n) ∧ ∃ cs : Array Value, u = .agg cs ∧ cs.size = n ∧
      ∀ j, j < n → pg p j % 32 = 5 ∧ pg p j / 32 < 256 ∧ cs[j]? = some (.int .u8 (pg p j / 32 : Nat)) := by
  obtain ⟨p, h1, h2, h3⟩ := aggK_ok (P := P) (hole := hole) h hm
  obtain ⟨h4, h5⟩ := bc h1
  obtain ⟨h6, h7⟩ := bc h5
  have h4 : a / 137438953472 = n := beq_t h4
  refine ⟨p, h7, fun T s u hT hu => ?_⟩
  obtain ⟨e1, cs, rfl, e2, e3⟩ := h3 T s u hT hu
  rw [h4] at e1 e2 e3
  refine ⟨e1, cs, rfl, e2, fun j hj => ?_⟩
  obtain ⟨v, e4, e5⟩ := e3 j hj
  have e6 := mask_tag (beq_t h6) hj
  obtain ⟨e7, rfl⟩ := VR.byte e5 e6
  exact ⟨e6, e7, e4⟩

theorem run_forBytes (D : Nat) (e : TypeId) (i : TypeInfo) (he : P.underlying e = some (.int .u8)) (hi : P.info? e = some i) (hD : ∀ (a b : Int) (w : World), (Op.equalIn D e (.int .u8 a) (.int .u8 b)).run P w = .ok (a == b) w) (xs ys : Array Value) (f g : Nat → Nat) (w : World) :
    ∀ (l : List Nat), (∀ j ∈ l, xs[j]? = some (.int .u8 (f j : Nat)) ∧ ys[j]? = some (.int .u8 (g j : Nat))) →
    (forIn l ((none : Option Bool), ()) (fun (i : Nat) (_ : Option Bool × Unit) => do
        let a ← part e xs (i * 1)
        let b ← part e ys (i * 1)
        let r ← Op.equalIn D e a b
        if (!r) = true then pure (ForInStep.done (some false, ())) else pure (ForInStep.yield (none, ()))) : Sem (Option Bool × Unit)).run P w =
      .ok (if ∀ j ∈ l, f j = g j then (none, ()) else (some false, ())) w := by
  intro l
  induction l with
  | nil => intro _; simp
  | cons j l ih =>
    intro hl
    obtain ⟨h1, h2⟩ := hl j (by simp)
    have hsz : sz P e = some 0 := by unfold sz; simp [he, hi, isAggD]
    have e1 : (part e xs (j * 1)).run P w = .ok (.int .u8 (f j : Nat)) w := by rw [Nat.mul_one]; exact run_part0 hsz h1 w
    have e2 : (part e ys (j * 1)).run P w = .ok (.int .u8 (g j : Nat)) w := by rw [Nat.mul_one]; exact run_part0 hsz h2 w
    have e3 := hD (f j : Int) (g j : Int) w
    simp only [List.forIn_cons, Sem.run_bind, e1, e2, e3, Result.andThen_ok]
    by_cases hfg : f j = g j
    · have : ((f j : Int) == (g j : Int)) = true := by simp [hfg]
      simp only [this, Bool.not_true, Bool.false_eq_true, if_false, Sem.run_pure, Result.andThen_ok]
      rw [ih fun j hj => hl j (by simp [hj])]
      simp [hfg]
    · have : ((f j : Int) == (g j : Int)) = false := by simp; omega
      simp only [this, Bool.not_false, if_true, Sem.run_pure, Result.andThen_ok]
      simp [hfg]
theorem run_equal_bytes (t e : TypeId) (i : TypeInfo) (n : Nat) (ht : P.underlying t = some (.array n e)) (he : P.underlying e = some (.int .u8)) (hi : P.info? e = some i) (hs : i.size = 1)
    (xs ys : Array Value) (f g : Nat → Nat) (hx : ∀ j, j < n → xs[j]? = some (.int .u8 (f j : Nat))) (hy : ∀ j, j < n → ys[j]? = some (.int .u8 (g j : Nat))) (D : Nat)
    (hD : ∀ (a b : Int) (w : World), (Op.equalIn D e (.int .u8 a) (.int .u8 b)).run P w = .ok (a == b) w) (w : World) :
    (Op.equalIn (D + 1) t (.agg xs) (.agg ys)).run P w = .ok (decide (∀ j, j < n → f j = g j)) w := by
  have hsz : (sizeOf e).run P w = .ok 1 w := by rw [run_sizeOf hi, hs]
  have := run_forBytes D e i he hi hD xs ys f g w (List.range' 0 n) (fun j hj => by
    rw [List.mem_range'] at hj
    obtain ⟨q, h1, h2⟩ := hj
    exact ⟨hx j (by omega), hy j (by omega)⟩)
  simp only [Op.equalIn, Sem.run_bind, run_underlying ht, Result.andThen_ok, hsz]
  simp only [Std.Legacy.Range.forIn_eq_forIn_range', Std.Legacy.Range.size, Nat.sub_zero, Nat.add_sub_cancel, Nat.div_one]
  rw [this]
  have hiff : (∀ j ∈ List.range' 0 n, f j = g j) ↔ ∀ j, j < n → f j = g j := by
    constructor
    · intro h j hj; exact h j (by rw [List.mem_range']; exact ⟨j, hj, by omega⟩)
    · intro h j hj
      rw [List.mem_range'] at hj
      obtain ⟨q, h1, h2⟩ := hj
      exact h j (by omega)
  by_cases h : ∀ j, j < n → f j = g j
  · rw [if_pos (hiff.2 h)]
    simp only [Result.andThen_ok, Sem.run_pure]
    rw [decide_eq_true h]
  · rw [if_neg (fun q => h (hiff.1 q))]
    simp only [Result.andThen_ok, Sem.run_pure]
    rw [decide_eq_false h]

theorem eqA_run {t e : TypeId} {i : TypeInfo} {n : Nat} (ht : P.underlying t = some (.array n e)) (he : P.underlying e = some (.int .u8)) (hi : P.info? e = some i) (hs : i.size = 1)
    {p q : Nat} (hp : p < 2 ^ (320 * n)) (hq : q < 2 ^ (320 * n)) {xs ys : Array Value}
    (hx : ∀ j, j < n → pg p j % 32 = 5 ∧ pg p j / 32 < 256 ∧ xs[j]? = some (.int .u8 (pg p j / 32 : Nat))) (hy : ∀ j, j < n → pg q j % 32 = 5 ∧ pg q j / 32 < 256 ∧ ys[j]? = some (.int .u8 (pg q j / 32 : Nat))) (w : World) :
    (Op.equalIn 10000 t (.agg xs) (.agg ys)).run P w = .ok (Nat.beq p q) w := by
  rw [run_equal_bytes t e i n ht he hi hs xs ys (fun j => pg p j / 32) (fun j => pg q j / 32) (fun j hj => (hx j hj).2.2) (fun j hj => (hy j hj).2.2) 9999
    (fun a b w => run_equalIn_int w 9998 e .u8 .u8 a b he) w]
  congr 1
  rw [Bool.eq_iff_iff, decide_eq_true_iff, Nat.beq_eq]
  constructor
  · intro h
    refine eq_of_pg hp hq fun j hj => ?_
    have h1 := (hx j hj).1
    have h2 := (hy j hj).1
    have h3 := h j hj
    omega
  · rintro rfl j _; rfl
theorem eqA_ok {t e : TypeId} {i : TypeInfo} {n : Nat} (ht : P.underlying t = some (.array n e)) (he : P.underlying e = some (.int .u8)) (hi : P.info? e = some i) (hs : i.size = 1)
    (hg : P.eqGuardType P.depth t = false) (X Y : Operand) : PureB P hole (eqA n) (bsem .eql t X Y) := by
  intro a b m kk x ha hb hm h
  obtain ⟨p, h, h1⟩ := byteA_ok (P := P) (hole := hole) h hm
  obtain ⟨q, h, h2⟩ := byteA_ok (P := P) (hole := hole) h hm
  refine ⟨_, m, h, PStep.refl hm, bV_lt _, fun T s u u' hT hu hu' => ?_⟩
  obtain ⟨e1, xs, rfl, _, e2⟩ := h1 T s u hT hu
  obtain ⟨e3, ys, rfl, _, e4⟩ := h2 T s u' hT hu'
  refine ⟨.bool (Nat.beq p q), ?_, VT.mk_bool _⟩
  simp only [bsem, Sem.run_bind, run_eqGuard_agg s.w .eql t X Y xs ys hg, Result.andThen_ok, run_eql_struct, eqA_run ht he hi hs e1 e3 e2 e4]
theorem neA_ok {t e : TypeId} {i : TypeInfo} {n : Nat} (ht : P.underlying t = some (.array n e)) (he : P.underlying e = some (.int .u8)) (hi : P.info? e = some i) (hs : i.size = 1)
    (hg : P.eqGuardType P.depth t = false) (X Y : Operand) : PureB P hole (neA n) (bsem .neq t X Y) := by
  intro a b m kk x ha hb hm h
  obtain ⟨p, h, h1⟩ := byteA_ok (P := P) (hole := hole) h hm
  obtain ⟨q, h, h2⟩ := byteA_ok (P := P) (hole := hole) h hm
  have hv : ∀ c : Bool, (Bool.casesOn c 41 9 : Nat) = bV !c := fun c => by cases c <;> rfl
  refine ⟨_, m, h, PStep.refl hm, by rw [hv]; exact bV_lt _, fun T s u u' hT hu hu' => ?_⟩
  obtain ⟨e1, xs, rfl, _, e2⟩ := h1 T s u hT hu
  obtain ⟨e3, ys, rfl, _, e4⟩ := h2 T s u' hT hu'
  refine ⟨.bool (!Nat.beq p q), ?_, by rw [hv]; exact VT.mk_bool _⟩
  simp only [bsem, Sem.run_bind, run_eqGuard_agg s.w .neq t X Y xs ys hg, Result.andThen_ok, run_neq_struct, eqA_run ht he hi hs e1 e3 e2 e4]

/-! ### strings of twenty bytes -/
def beL (L n : Nat) : List UInt8 := (List.range L).map fun i => UInt8.ofNat (n / 256 ^ (L - 1 - i) % 256)
theorem beL_succ (L n : Nat) : beL (L + 1) n = UInt8.ofNat (n / 256 ^ L % 256) :: beL L n := by
  unfold beL
  rw [List.range_succ_eq_map, List.map_cons, List.map_map]
  congr 1
  apply List.map_congr_left
  intro i _
  show UInt8.ofNat (n / 256 ^ (L + 1 - 1 - (i + 1)) % 256) = UInt8.ofNat (n / 256 ^ (L - 1 - i) % 256)
  rw [show L + 1 - 1 - (i + 1) = L - 1 - i by omega]
theorem bytesLess_be (a b : Nat) : ∀ L, Op.bytesLess (beL L a) (beL L b) = decide (a % 256 ^ L < b % 256 ^ L) := by
  intro L
  induction L with
  | zero => simp [beL, Op.bytesLess, Nat.mod_one]
  | succ L ih =>
    rw [beL_succ, beL_succ]
    simp only [Op.bytesLess, ih]
    have ha : a % 256 ^ (L + 1) = (a / 256 ^ L % 256) * 256 ^ L + a % 256 ^ L := by
      rw [Nat.pow_succ, Nat.mod_mul, Nat.mul_comm (256 ^ L)]; omega
    have hb : b % 256 ^ (L + 1) = (b / 256 ^ L % 256) * 256 ^ L + b % 256 ^ L := by
      rw [Nat.pow_succ, Nat.mod_mul, Nat.mul_comm (256 ^ L)]; omega
    have hpos : 0 < 256 ^ L := Nat.pow_pos (by omega)
    have h1 := Nat.mod_lt a hpos
    have h2 := Nat.mod_lt b hpos
    have h3 := Nat.mod_lt (a / 256 ^ L) (show 0 < 256 by omega)
    have h4 := Nat.mod_lt (b / 256 ^ L) (show 0 < 256 by omega)
    rw [ha, hb]
    generalize a / 256 ^ L % 256 = x at *
    generalize b / 256 ^ L % 256 = y at *
    generalize a % 256 ^ L = p at *
    generalize b % 256 ^ L = q at *
    generalize 256 ^ L = M at *
    rw [Bool.eq_iff_iff]
    simp only [Bool.or_eq_true, Bool.and_eq_true, decide_eq_true_iff, beq_iff_eq]
    have e1 : (UInt8.ofNat x < UInt8.ofNat y) ↔ x < y := by
      rw [UInt8.lt_iff_toNat_lt, UInt8.toNat_ofNat_of_lt' (by simpa using h3), UInt8.toNat_ofNat_of_lt' (by simpa using h4)]
    have e2 : (UInt8.ofNat x = UInt8.ofNat y) ↔ x = y := by
      constructor
      · intro h
        have := congrArg UInt8.toNat h
        rwa [UInt8.toNat_ofNat_of_lt' (by simpa using h3), UInt8.toNat_ofNat_of_lt' (by simpa using h4)] at this
      · rintro rfl; rfl
    rw [e1, e2]
    rcases Nat.lt_trichotomy x y with h | h | h
    · have : (x + 1) * M ≤ y * M := Nat.mul_le_mul_right _ h
      rw [Nat.add_mul] at this
      omega
    · subst h; omega
    · have : (y + 1) * M ≤ x * M := Nat.mul_le_mul_right _ h
      rw [Nat.add_mul] at this
      omega
theorem VT.str {s : St} {T : List Nat} {e : Nat} {u : Value} (x : VT P hole s T e u) (h : e % 32 = 17) : e / 32 < 256 ^ 20 ∧ u = .string (str20 (e / 32)) := by
  have y : VR P hole s e u := VR.of_VT (by omega) (by omega) x
  unfold VR at y
  simpa only [h] using y
theorem str_less {a b : Nat} (ha : a < 256 ^ 20) (hb : b < 256 ^ 20) : Op.bytesLess (str20 a).toList (str20 b).toList = decide (a < b) := by
  have e : ∀ n, (str20 n).toList = beL 20 n := fun n => by rw [ByteArray.toList_eq]; rfl
  rw [e, e, bytesLess_be, Nat.mod_eq_of_lt ha, Nat.mod_eq_of_lt hb]
theorem ltStr_ok (t : TypeId) (X Y : Operand) : PureB P hole ltStr (bsem .lss t X Y) := by
  intro a b m kk x ha hb hm h
  obtain ⟨h1, h⟩ := chk_ok h
  obtain ⟨h2, h⟩ := chk_ok h
  refine ⟨_, m, h, PStep.refl hm, bV_lt _, fun T s u u' hT hu hu' => ?_⟩
  obtain ⟨h3, rfl⟩ := VT.str hu h1
  obtain ⟨h4, rfl⟩ := VT.str hu' h2
  refine ⟨.bool (decide (a / 32 < b / 32)), by simp [bsem, eqGuard, binOp, Op.stringOp, str_less h3 h4], ?_⟩
  have e : Nat.ble (Nat.succ a) b = decide (a / 32 < b / 32) := by
    rw [Bool.eq_iff_iff, Nat.ble_eq, decide_eq_true_iff]; omega
  rw [e]
  exact VT.mk_bool _
theorem geStr_ok (t : TypeId) (X Y : Operand) : PureB P hole geStr (bsem .geq t X Y) := by
  intro a b m kk x ha hb hm h
  obtain ⟨h1, h⟩ := chk_ok h
  obtain ⟨h2, h⟩ := chk_ok h
  refine ⟨_, m, h, PStep.refl hm, bV_lt _, fun T s u u' hT hu hu' => ?_⟩
  obtain ⟨h3, rfl⟩ := VT.str hu h1
  obtain ⟨h4, rfl⟩ := VT.str hu' h2
  refine ⟨.bool (!decide (a / 32 < b / 32)), by simp [bsem, eqGuard, binOp, Op.stringOp, str_less h3 h4], ?_⟩
  have e : Nat.ble b a = !decide (a / 32 < b / 32) := by
    rw [Bool.eq_iff_iff, Nat.ble_eq, Bool.not_eq_true', decide_eq_false_iff_not]; omega
  rw [e]
  exact VT.mk_bool _
end
end Go.Proofs.YgvaqwGreat.Ev
