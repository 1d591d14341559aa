/- The evaluator's conversion of twenty bytes to a string, and composite values, against the model's. -/
import Derived.Test.YgvaqwGreatEvQ
import Derived.Laws.BytesArg
import Derived.Laws.Tables
set_option exponentiation.threshold 400
namespace Go.Proofs.YgvaqwGreat.Ev
open Go
section
variable {P : Program} {hole : Nat}

/-! ### bytes read as one number, the most significant first -/
def u8L (n : Nat) (c acc : Nat) : Nat := Nat.rec (motive := fun _ => Nat → Nat → Nat) (fun _ acc => acc) (fun _ ih c acc => forceN (Nat.add (Nat.mul 256 acc) (Nat.div (Nat.mod c cB) 32)) fun acc => ih (Nat.shiftRight c 320) acc) n c acc
theorem u8s_eq (c n : Nat) : u8s c n = u8L n c 0 := rfl
theorem pg_shift (c j : Nat) : pg (c >>> 320) j = pg c (j + 1) := by
  rw [pg_eq, pg_eq, ← Nat.shiftRight_add, show 320 + 320 * j = 320 * (j + 1) by omega]
theorem u8L_ok : ∀ (n c acc : Nat), (∀ j, j < n → pg c j / 32 < 256) → ∃ V, u8L n c acc = acc * 256 ^ n + V ∧ V < 256 ^ n ∧ ∀ i, i < n → V / 256 ^ (n - 1 - i) % 256 = pg c i / 32 := by
  intro n
  induction n with
  | zero => intro c acc _; exact ⟨0, by show acc = _; simp, by simp, fun i hi => by omega⟩
  | succ n ih =>
    intro c acc h
    have h0 : Nat.div (Nat.mod c cB) 32 = pg c 0 / 32 := by
      show c % cB / 32 = _
      rw [pg_eq, cB_eq]; rfl
    have e : u8L (n + 1) c acc = u8L n (c >>> 320) (256 * acc + pg c 0 / 32) := by
      show forceN _ _ = _
      rw [forceN_eq, ← h0]; rfl
    obtain ⟨V, h1, h2, h3⟩ := ih (c >>> 320) (256 * acc + pg c 0 / 32) (fun j hj => by rw [pg_shift]; exact h (j + 1) (by omega))
    have hp : 0 < 256 ^ n := Nat.pow_pos (by omega)
    have hp0 := h 0 (by omega)
    refine ⟨pg c 0 / 32 * 256 ^ n + V, ?_, ?_, fun i hi => ?_⟩
    · rw [e, h1, Nat.pow_succ, Nat.add_mul]
      rw [show 256 * acc * 256 ^ n = acc * (256 ^ n * 256) by rw [Nat.mul_comm 256 acc, Nat.mul_assoc, Nat.mul_comm 256]]
      omega
    · rw [Nat.pow_succ]
      have : pg c 0 / 32 * 256 ^ n ≤ 255 * 256 ^ n := Nat.mul_le_mul_right _ (by omega)
      omega
    · cases i with
      | zero =>
        rw [show n + 1 - 1 - 0 = n by omega, Nat.mul_comm, Nat.mul_add_div hp, Nat.div_eq_of_lt h2, Nat.add_zero]
        exact Nat.mod_eq_of_lt hp0
      | succ i =>
        rw [show n + 1 - 1 - (i + 1) = n - 1 - i by omega]
        have hle : n = (n - 1 - i) + (i + 1) := by omega
        have hm : pg c 0 / 32 * 256 ^ n = 256 ^ (n - 1 - i) * (pg c 0 / 32 * 256 ^ (i + 1)) := by
          conv => lhs; rw [hle, Nat.pow_add]
          rw [Nat.mul_left_comm]
        rw [hm, Nat.mul_add_div (Nat.pow_pos (by omega)), Nat.pow_succ, ← Nat.mul_assoc, Nat.add_comm, Nat.add_mul_mod_self_right]
        rw [h3 i (by omega), pg_shift]

theorem str_of (V : Nat) (p : Nat → Nat) (h : ∀ i, i < 20 → V / 256 ^ (20 - 1 - i) % 256 = p i) :
    ((List.range 20).map fun j => (p j : Int)).foldl (fun r n => r.push (UInt8.ofNat n.toNat)) ByteArray.empty = str20 V := by
  rw [foldl_push_bytes]
  have e : (((List.range 20).map fun j => (p j : Int)).map fun n => UInt8.ofNat n.toNat) = (List.range 20).map fun i => UInt8.ofNat (V / 256 ^ (19 - i) % 256) := by
    rw [List.map_map]
    apply List.map_congr_left
    intro i hi
    have hi : i < 20 := List.mem_range.1 hi
    have := h i hi
    rw [show 20 - 1 - i = 19 - i by omega] at this
    rw [this]
    rfl
  rw [e]
  unfold str20
  rw [show ByteArray.empty.data = #[] from rfl, Array.empty_append]

theorem VR.mk_str {s : St} {V : Nat} (h : V < 256 ^ 20) : VR P hole s (17 + 32 * V) (.string (str20 V)) := by
  unfold VR
  have e1 : (17 + 32 * V) % 32 = 17 := by omega
  have e2 : (17 + 32 * V) / 32 = V := by omega
  rw [e1, e2]
  exact ⟨h, rfl⟩

theorem cvStr_ok {s d e : TypeId} (hs : P.underlying s = some (.slice e)) (he : P.underlying e = some (.int .u8)) (hd : P.underlying d = some .string) : LoadU P hole cvStr (fun u => convert s d u) := by
  intro a m kk x ha hm h
  obtain ⟨hsl0, h⟩ := bc h
  obtain ⟨n, h, hn⟩ := lenOf_ok h
  obtain ⟨h20, h⟩ := bc h
  have h20 : n = 20 := beq_t h20
  have hsl : isSl a = true ∧ lenS a = 20 := by
    rcases hn with ⟨h1, h2⟩ | ⟨_, h2⟩ | ⟨h1, h2⟩
    · exact ⟨h1, by omega⟩
    · omega
    · exfalso
      unfold isSl at hsl0
      rw [show Nat.mod a 32 = 14 from h1] at hsl0
      exact absurd hsl0 (by decide)
  have h13 : a ≠ 13 := by rintro rfl; exact absurd hsl.1 (by decide)
  obtain ⟨c, h, hlt, hb, hsrc⟩ := srcK_ok (P := P) (hole := hole) h hm (fun h => absurd h h13)
  obtain ⟨hmask, h⟩ := bc h
  have hmask : Nat.land c (maskN 20) = patN 20 := beq_t hmask
  rw [forceN_eq] at h
  obtain ⟨hble, h⟩ := bc h
  have hble : u8s c 20 ≤ 1461501637330902918203684832716283019655932542975 := ble_t hble
  have h14 : a % 32 ≠ 14 := by
    intro h1
    unfold isSl at hsl0
    rw [show Nat.mod a 32 = 14 from h1] at hsl0
    exact absurd hsl0 (by decide)
  rcases hb with ⟨hb, _⟩ | ⟨_, b, b1, b2, b3, b4⟩ | hb
  · exact absurd hb h13
  rotate_left
  · exact absurd hb h14
  have hmr : memRef a = true := by
    unfold memRef
    cases h10 : Nat.beq (Nat.mod a 32) 10
    · exact hsl.1
    · rfl
  refine ⟨_, m, h, RStep.refl hm, ?_, some b, (fun c hc => by cases hc; exact ⟨b1, b2, hmr⟩), fun T s S u hT hR hS hu => ?_⟩
  · refine lt_cB (Nat.lt_trans (m := 2 ^ 200) ?_ (Nat.pow_lt_pow_right (by omega) (by omega)))
    show 17 + 32 * u8s c 20 < _
    omega
  obtain ⟨cs, c1, c2, c3⟩ := hsrc T s S u hR (fun b' hb' e => by rw [hm.uniq hb' b1 (by rw [e, b2])]; exact hS b rfl) hu
  have hby : ∀ j, j < 20 → pg c j / 32 < 256 ∧ cs[j]? = some (.int .u8 (pg c j / 32 : Nat)) := by
    intro j hj
    obtain ⟨v, f1, f2⟩ := c3 j (by omega)
    obtain ⟨f3, f4⟩ := VR.byte f2 (mask_tag hmask hj)
    exact ⟨f3, by rw [f1, f4]⟩
  obtain ⟨V, k1, k2, k3⟩ := u8L_ok 20 c 0 (fun j hj => (hby j hj).1)
  have hV : u8s c 20 = V := by rw [u8s_eq, k1, Nat.zero_mul, Nat.zero_add]
  rw [hV]
  obtain ⟨r, cap, g1, rfl, _⟩ := VT.anySl hu hsl.1
  refine ⟨.string (str20 V), ?_, VT.of_VR (VR.mk_str k2)⟩
  have hcs : cs = ((List.range 20).map fun j => ((pg c j / 32 : Nat) : Int)).map (Value.int .u8) := by
    apply List.ext_getElem?
    intro j
    by_cases hj : j < 20
    · rw [(hby j hj).2]
      simp [hj]
    · rw [List.getElem?_eq_none (by omega), List.getElem?_eq_none (by simp; omega)]
  have hl := c1 s.w rfl
  rw [hcs, hsl.2] at hl
  rw [hsl.2, run_convert_bytes_string s.w _ d e _ 20 cap hs he hd, run_bytesToString s.w _ 20 cap _ hl, str_of V (fun j => pg c j / 32) k3]

/-! ### composite values -/
/-- an operation that touches no memory -/
def KPure (P : Program) (hole N : Nat) (F : OpF) (f : Act → Sem Value) : Prop :=
  ∀ call E m k x, MOK m → F.fn call E m k = some x → ∃ v m', k v m' = some x ∧ PStep m m' ∧ v < cB ∧
    ∀ (T : List Nat) (s : St) (a : Act), Suf m'.ag T → Env P hole N s T E a → ∃ v', (f a).run P s.w = .ok v' s.w ∧ VT P hole s T v v'
theorem PureU.k {N : Nat} {g : Nat → Mem → KV → R} {f : Value → Sem Value} (h : PureU P hole g f) (y : Operand) : KPure P hole N (uop (sel N y) g) (fun a => f (a.eval y)) := by
  intro call E m k x hm hx
  obtain ⟨v, m', h1, h2, h3, h4⟩ := h _ m k x (sel_lt N y E) hm hx
  exact ⟨v, m', h1, h2, h3, fun T s a hT ha => h4 T s _ hT (ha y)⟩
theorem PureB.k {N : Nat} {g : Nat → Nat → Mem → KV → R} {f : Value → Value → Sem Value} (h : PureB P hole g f) (y y' : Operand) : KPure P hole N (bop (sel N y) (sel N y') g) (fun a => f (a.eval y) (a.eval y')) := by
  intro call E m k x hm hx
  obtain ⟨v, m', h1, h2, h3, h4⟩ := h _ _ m k x (sel_lt N y E) (sel_lt N y' E) hm hx
  exact ⟨v, m', h1, h2, h3, fun T s a hT ha => h4 T s _ _ hT (ha y) (ha y')⟩
theorem PureE.k {N : Nat} {g : Nat → Nat → Mem → KV → R} {f : Act → Value → Sem Value} (h : PureE P hole N g f) (y : Operand) : KPure P hole N ⟨fun _ E m k => g E ((sel N y).fn E) m k⟩ (fun a => f a (a.eval y)) := by
  intro call E m k x hm hx
  obtain ⟨v, m', h1, h2, h3, h4⟩ := h E _ m k x (sel_lt N y E) hm hx
  exact ⟨v, m', h1, h2, h3, fun T s a hT ha => h4 T s a _ hT ha (ha y)⟩

theorem build_gen {t : TypeId} {N n z : Nat} {place place' : Nat → Option (Nat × Nat)} (hp : ∀ i ow, place i = some ow → place' i = some ow) (hz : zeroP P t = some (n, z)) (parts : List (Nat × Operand)) (f : Act → Sem Value)
    (hf : ∀ (i : TypeInfo) (zv : Value) (a : Act) (cs : Array Value) (w : World), P.info? t = some i → i.zero = some zv → Instr.fill place' zv.cells (parts.map fun y => (y.1, a.eval y.2)) = some cs → (f a).run P w = .ok (.agg cs) w) :
    KPure P hole N (buildF n z (fillF N n place parts)) f := by
  intro call E m k x hm hx
  obtain ⟨c, hx, hfl⟩ := fillF_ok (P := P) (hole := hole) hp parts hx hm
  obtain ⟨v, m', h1, h2, h3, h4, h5, h6, h7⟩ := newAg_ok hx hm (by omega)
  obtain ⟨i, zv, hi, hzv, hn, hlt, hv⟩ := zeroP_ok (hole := hole) hz
  refine ⟨v, m', h1, h2, h3, fun T s a hT ha => ?_⟩
  obtain ⟨cs, f1, f2, f3, f4⟩ := hfl T s a zv.cells (h2.ag.trans hT) ha hn hlt (hv s)
  have hlen : nmOf v < m'.ag.length := by rw [h6, h7]; simp
  have hagT : agT T (nmOf v) = c := by rw [agT_suf hT hlen, h6, h7, agT_head]
  refine ⟨.agg cs, hf i zv a cs s.w hi hzv f1, VT.mk_agg h4 (Nat.lt_of_lt_of_le hlen hT.length) (by rw [hagT, h5]; exact f3) (by rw [h5]; exact f2) fun j hj => ?_⟩
  rw [h5] at hj
  rw [hagT]
  exact f4 j hj

theorem places_ok : ∀ (fs : List Field), (fs.all fun f => (P.info? f.type).isSome) = true → ∃ places, fs.mapM (fun f => (P.info? f.type).map fun i => (f.offset, i.size)) = some places ∧
    ∀ j ow, placeS P fs j = some ow → places[j]? = some ow := by
  intro fs
  induction fs with
  | nil => intro _; exact ⟨[], rfl, fun j ow h => by simp [placeS] at h⟩
  | cons f fs ih =>
    intro h
    rw [List.all_cons, Bool.and_eq_true] at h
    obtain ⟨places, h1, h2⟩ := ih h.2
    obtain ⟨i, hi⟩ := Option.isSome_iff_exists.1 h.1
    refine ⟨(f.offset, i.size) :: places, by simp [List.mapM_cons, hi, h1], fun j ow hj => ?_⟩
    cases j with
    | zero =>
      simp only [placeS, List.getElem?_cons_zero] at hj
      split at hj
      · rename_i w hw
        obtain ⟨_, i', hi', hsz⟩ := cl_ok hw
        rw [hi] at hi'
        cases hi'
        rw [hsz]
        simpa using hj
      · cases hj
    | succ j =>
      have : placeS P fs j = some ow := by simpa [placeS] using hj
      simpa using h2 j ow this
theorem buildS_ok {t : TypeId} {N n z : Nat} {fields : Array Field} (ht : P.underlying t = some (.struct fields)) (hz : zeroP P t = some (n, z)) (hall : (fields.toList.all fun f => (P.info? f.type).isSome) = true)
    (parts : Array (Nat × Operand)) : KPure P hole N (buildF n z (fillF N n (placeS P fields.toList) parts.toList)) (fun a => Instr.build t (parts.map fun (i, x) => (i, a.eval x))) := by
  obtain ⟨places, h1, h2⟩ := places_ok (P := P) fields.toList hall
  refine build_gen (place' := fun j => places[j]?) h2 hz parts.toList _ fun i zv a cs w hi hzv hf => ?_
  refine run_build w t _ cs ?_
  unfold Program.built
  rw [hi, ht]
  simp only [hzv, h1, Array.toList_map]
  simpa using hf
theorem buildA_ok {t e : TypeId} {N n z w len : Nat} (ht : P.underlying t = some (.array len e)) (hz : zeroP P t = some (n, z)) (hc : cl P e = some w)
    (parts : Array (Nat × Operand)) : KPure P hole N (buildF n z (fillF N n (fun i => some (i * w, w)) parts.toList)) (fun a => Instr.build t (parts.map fun (i, x) => (i, a.eval x))) := by
  obtain ⟨_, ie, hie, hsz⟩ := cl_ok hc
  refine build_gen (place' := fun i => some (i * w, w)) (fun _ _ h => h) hz parts.toList _ fun i zv a cs W hi hzv hf => ?_
  refine run_build W t _ cs ?_
  unfold Program.built
  rw [hi, ht]
  simp only [hzv, hie, Array.toList_map, hsz]
  exact hf

theorem pickF_ok {N : Nat} (c y y' : Operand) : KPure P hole N (pickF (sel N c) (sel N y) (sel N y')) (fun a => do pure (if ← asBool (a.eval c) then a.eval y else a.eval y')) := by
  intro call E m k x hm hx
  have hx : pick3 ((sel N c).fn E) ((sel N y).fn E) ((sel N y').fn E) m k = some x := hx
  unfold pick3 at hx
  cases h1 : Nat.beq ((sel N c).fn E) 41
  · rw [h1] at hx
    obtain ⟨h2, hx⟩ := bc hx
    have h2 : (sel N c).fn E = 9 := beq_t h2
    refine ⟨_, m, hx, PStep.refl hm, sel_lt N y' E, fun T s a hT ha => ⟨_, ?_, ha y'⟩⟩
    have hc := ha c
    rw [h2] at hc
    obtain ⟨b, hb, hb2⟩ := VT.bool hc rfl
    have hb3 : b = false := by cases b; rfl; exact absurd hb2 (by decide)
    subst hb3
    simp [hb, asBool]
  · rw [h1] at hx
    have h2 : (sel N c).fn E = 41 := beq_t h1
    refine ⟨_, m, hx, PStep.refl hm, sel_lt N y E, fun T s a hT ha => ⟨_, ?_, ha y⟩⟩
    have hc := ha c
    rw [h2] at hc
    obtain ⟨b, hb, hb2⟩ := VT.bool hc rfl
    have hb3 : b = true := by cases b; exact absurd hb2 (by decide); rfl
    subst hb3
    simp [hb, asBool]

theorem lenA_ok {n : Nat} {N : Nat} {f : Act → Sem Value} (hf : ∀ a (w : World), (f a).run P w = .ok (.int .i64 n) w) : KPure P hole N (lenA n) f := by
  intro call E m k x hm hx
  unfold lenA at hx
  split at hx
  · rename_i hn
    have hn : n ≤ 4294967295 := ble_t hn
    rw [forceN_eq] at hx
    exact ⟨_, m, hx, PStep.refl hm, int_lt_cB (k := .i64) (p := n) (show n < 18446744073709551616 by omega), fun T s a _ _ => ⟨_, hf a s.w, int_enc (by omega)⟩⟩
  · exact absurd hx (by simp [bad])
end
end Go.Proofs.YgvaqwGreat.Ev
