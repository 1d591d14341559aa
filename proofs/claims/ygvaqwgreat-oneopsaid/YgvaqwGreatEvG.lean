/- The evaluator's operations against the model's: aggregates, addresses, slices (no memory is read). -/
import Derived.Test.YgvaqwGreatEvF
set_option exponentiation.threshold 400
namespace Go.Proofs.YgvaqwGreat.Ev
open Go
section
variable {P : Program} {hole : Nat}

/-! ### static facts -/
theorem cl_ok {t : TypeId} {w : Nat} (h : cl P t = some w) : 0 < w ∧ ∃ i, P.info? t = some i ∧ i.size = w := by
  unfold cl at h
  split at h
  · rename_i i hi
    split at h
    · cases h
    · rename_i n hn
      cases h
      exact ⟨by omega, i, hi, hn⟩
  · cases h
theorem run_sizeOf {t : TypeId} {i : TypeInfo} (h : P.info? t = some i) (w : World) : (sizeOf t).run P w = .ok i.size w := by
  simp [sizeOf, typeInfo, h]
theorem cl_run {t : TypeId} {n : Nat} (h : cl P t = some n) (w : World) : (sizeOf t).run P w = .ok n w := by
  obtain ⟨_, i, h1, h2⟩ := cl_ok h
  rw [run_sizeOf h1, h2]
theorem sz_ok {t : TypeId} {s : Nat} (h : sz P t = some s) : ∃ d i, P.underlying t = some d ∧ P.info? t = some i ∧ ((isAggD d = true ∧ s = i.size + 1) ∨ (isAggD d = false ∧ s = 0)) := by
  unfold sz at h
  split at h
  · rename_i d hd
    split at h
    · rename_i i hi
      split at h
      · rename_i ha; cases h; exact ⟨d, i, hd, hi, .inl ⟨ha, rfl⟩⟩
      · rename_i ha; cases h; exact ⟨d, i, hd, hi, .inr ⟨ha, rfl⟩⟩
    · cases h
  · cases h
theorem run_isAgg {t : TypeId} {d : TypeDesc} (h : P.underlying t = some d) (w : World) : (isAgg t).run P w = .ok (isAggD d) w := by
  unfold isAgg
  rw [Sem.run_bind, run_underlying h, Result.andThen_ok]
  cases d <;> rfl
theorem run_part0 {t : TypeId} (h : sz P t = some 0) {cs : Array Value} {off : Nat} {u : Value} (hu : cs[off]? = some u) (w : World) : (part t cs off).run P w = .ok u w := by
  obtain ⟨d, i, h1, h2, h3⟩ := sz_ok h
  have h4 : isAggD d = false := by rcases h3 with ⟨_, h⟩ | ⟨h, _⟩; omega; exact h
  simp [part, run_isAgg h1, h4, hu]
theorem run_partA {t : TypeId} {n : Nat} (h : sz P t = some (n + 1)) (cs : Array Value) (off : Nat) (w : World) : (part t cs off).run P w = .ok (.agg (cs.extract off (off + n))) w := by
  obtain ⟨d, i, h1, h2, h3⟩ := sz_ok h
  rcases h3 with ⟨h3, h4⟩ | ⟨_, h4⟩
  · have : i.size = n := by omega
    simp [part, run_isAgg h1, h3, run_sizeOf h2, this]
  · omega

theorem div_lt_of_cB {e : Nat} (he : e < cB) : e / 137438953472 < 2 ^ 283 := by
  rw [cB_eq] at he
  have : (2 : Nat) ^ 320 = 2 ^ 283 * 137438953472 := by decide +kernel
  exact Nat.div_lt_of_lt_mul (by rw [Nat.mul_comm, ← this]; exact he)

/-! ### parts of an aggregate -/
theorem part0_ok {c n off : Nat} {m : Mem} {k : KV} {x : Nat × Mem} (h : part0 c n off m k = some x) : off < n ∧ k (pg c off) m = some x := by
  obtain ⟨h1, h2⟩ := bc h
  exact ⟨ble_t h1, h2⟩
theorem partA_ok {w c n off : Nat} {m : Mem} {k : KV} {x : Nat × Mem} (h : partA w c n off m k = some x) (hm : MOK m) :
    off + w ≤ n ∧ ∃ v m', k v m' = some x ∧ PStep m m' ∧ v < cB ∧ ∀ (T : List Nat) (s : St) (cs : Array Value), Suf m'.ag T → cs.size = n →
      (∀ j, j < n → ∃ u, cs[j]? = some u ∧ VR P hole s (pg c j) u) → VT P hole s T v (.agg (cs.extract off (off + w))) := by
  obtain ⟨h1, h2⟩ := bc h
  have h1 : off + w ≤ n := ble_t h1
  obtain ⟨v, m', h3, h4, h5, h6, h7, h8, h9⟩ := newAg_ok h2 hm (by omega)
  refine ⟨h1, v, m', h3, h4, h5, fun T s cs hT hcs hc => ?_⟩
  have hlen : nmOf v < m'.ag.length := by rw [h8, h9]; simp
  have hag : agT T (nmOf v) = rgN c off w := by rw [agT_suf hT hlen, h8, h9, agT_head]
  refine VT.mk_agg h6 (Nat.lt_of_lt_of_le hlen hT.length) (by rw [hag, h7]; exact rgN_lt _ _ _) (by rw [h7]; simp; omega) fun j hj => ?_
  rw [h7] at hj
  obtain ⟨u, h10, h11⟩ := hc (off + j) (by omega)
  refine ⟨u, ?_, by rw [hag, pg_rgN hj]; exact h11⟩
  rw [Array.getElem?_extract]
  rw [if_pos (by omega)]
  exact h10

theorem fd0_ok {t : TypeId} {fields : Array Field} {i : Nat} {fd : Field} (ht : P.underlying t = some (.struct fields)) (hf : fields[i]? = some fd) (hs : sz P fd.type = some 0) :
    PureU P hole (fd0 fd.offset) (fun u => Instr.field t u i) := by
  intro e m kk x he hm h
  obtain ⟨p, h1, h2, h3⟩ := aggK_ok (P := P) (hole := hole) h hm
  obtain ⟨h4, h5⟩ := part0_ok h1
  refine ⟨_, m, h5, PStep.refl hm, pg_lt _ _, fun T s u hT hu => ?_⟩
  obtain ⟨_, cs, rfl, h6, h7⟩ := h3 T s u hT hu
  obtain ⟨v, h8, h9⟩ := h7 fd.offset h4
  refine ⟨v, ?_, VT.of_VR h9⟩
  simp [Instr.field, run_underlying ht, hf, asAgg, run_part0 hs h8]
theorem fdA_ok {t : TypeId} {fields : Array Field} {i w : Nat} {fd : Field} (ht : P.underlying t = some (.struct fields)) (hf : fields[i]? = some fd) (hs : sz P fd.type = some (w + 1)) :
    PureU P hole (fdA w fd.offset) (fun u => Instr.field t u i) := by
  intro e m kk x he hm h
  obtain ⟨p, h1, h2, h3⟩ := aggK_ok (P := P) (hole := hole) h hm
  obtain ⟨h4, v, m', h5, h6, h7, h8⟩ := partA_ok (P := P) (hole := hole) h1 hm
  refine ⟨v, m', h5, h6, h7, fun T s u hT hu => ?_⟩
  obtain ⟨_, cs, rfl, h9, h10⟩ := h3 T s u (h6.ag.trans hT) hu
  refine ⟨_, ?_, h8 T s cs hT h9 h10⟩
  simp [Instr.field, run_underlying ht, hf, asAgg, run_partA hs]

theorem run_index (t e : TypeId) (n : Nat) (ht : P.underlying t = some (.array n e)) (cs : Array Value) (k : IntKind) (i sz : Nat) (hi : i < n) (w : World)
    (hs : (sizeOf e).run P w = .ok sz w) : (Instr.index t (.agg cs) (.int k i)).run P w = (part e cs (i * sz)).run P w := by
  simp [Instr.index, asIntOf, run_underlying ht, hs]
  intro hh; omega
theorem ix0_ok {t e : TypeId} {n : Nat} (ht : P.underlying t = some (.array n e)) (hn : n ≤ 4294967295) (hs : sz P e = some 0) (hc : cl P e = some 1) :
    PureB P hole (ix0 n) (fun u u' => Instr.index t u u') := by
  intro a b m kk x ha hb hm h
  obtain ⟨h1, h2, h⟩ := natK_ok h
  obtain ⟨h3, h⟩ := bc h
  have h3 : b / 32 + 1 ≤ n := ble_t h3
  obtain ⟨p, h4, h5, h6⟩ := aggK_ok (P := P) (hole := hole) h hm
  obtain ⟨h7, h8⟩ := part0_ok h4
  refine ⟨_, m, h8, PStep.refl hm, pg_lt _ _, fun T s u u' hT hu hu' => ?_⟩
  obtain ⟨_, cs, rfl, h9, h10⟩ := h6 T s u hT hu
  obtain ⟨k, rfl, _, _⟩ := VT.nat hu' h1 h2 (by omega)
  obtain ⟨v, h11, h12⟩ := h10 (b / 32) h7
  refine ⟨v, ?_, VT.of_VR h12⟩
  rw [run_index t e n ht cs k _ 1 (by omega) s.w (cl_run hc s.w), Nat.mul_one]
  exact run_part0 hs h11 s.w
theorem ixA_ok {t e : TypeId} {n w : Nat} (ht : P.underlying t = some (.array n e)) (hn : n ≤ 4294967295) (hs : sz P e = some (w + 1)) :
    PureB P hole (ixA w n) (fun u u' => Instr.index t u u') := by
  intro a b m kk x ha hb hm h
  obtain ⟨h1, h2, h⟩ := natK_ok h
  obtain ⟨h3, h⟩ := bc h
  have h3 : b / 32 + 1 ≤ n := ble_t h3
  obtain ⟨p, h4, h5, h6⟩ := aggK_ok (P := P) (hole := hole) h hm
  obtain ⟨h7, v, m', h8, h9, h10, h11⟩ := partA_ok (P := P) (hole := hole) h4 hm
  refine ⟨v, m', h8, h9, h10, fun T s u u' hT hu hu' => ?_⟩
  obtain ⟨_, cs, rfl, h12, h13⟩ := h6 T s u (h9.ag.trans hT) hu
  obtain ⟨k, rfl, _, _⟩ := VT.nat hu' h1 h2 (by omega)
  refine ⟨_, ?_, h11 T s cs hT h12 h13⟩
  obtain ⟨d, i, e1, e2, e3⟩ := sz_ok hs
  have e4 : i.size = w := by rcases e3 with ⟨_, h⟩ | ⟨_, h⟩ <;> omega
  rw [run_index t e n ht cs k _ w (by omega) s.w (by rw [run_sizeOf e2, e4])]
  exact run_partA hs cs _ s.w

/-! ### a part of a tuple -/
theorem VT.tup {s : St} {T : List Nat} {e : Nat} {u : Value} (x : VT P hole s T e u) (h : e % 32 = 21) :
    nmOf e < T.length ∧ ∃ vs : Array Value, u = .tuple vs ∧ vs.size = e / 137438953472 ∧
      ∀ j, j < e / 137438953472 → ∃ u, vs[j]? = some u ∧ (pg (agT T (nmOf e)) j % 32 = 0 ∨ VA P hole s T (pg (agT T (nmOf e)) j) u) := by
  unfold VT at x
  simpa only [h] using x
theorem extr_ok (i : Nat) : PureU P hole (extr i) (fun u => Instr.extract u i) := by
  intro e m kk x he hm h
  obtain ⟨h1, h⟩ := chk_ok h
  obtain ⟨h2, h⟩ := bc h
  have h2 : i + 1 ≤ e / 137438953472 := ble_t h2
  obtain ⟨h3, h⟩ := agOf_ok h hm
  refine ⟨_, m, h, PStep.refl hm, pg_lt _ _, fun T s u hT hu => ?_⟩
  obtain ⟨_, vs, rfl, _, h5⟩ := VT.tup hu h1
  obtain ⟨v, h6, h7⟩ := h5 i (by omega)
  rw [agT_suf hT h3] at h7
  refine ⟨v, by simp [Instr.extract, h6], ?_⟩
  rcases h7 with h7 | h7
  · exact VT.top h7
  · exact VT.of_VA h7

/-! ### addresses -/
theorem nilK_ok (e : Nat) (m : Mem) (k : KV) (x : Nat × Mem) (h : nilK e m k = some x) : e % 32 = 10 ∧ k e m = some x := chk_ok h
theorem addr_add (r o n : Nat) : (⟨r, o, none⟩ : Addr).add n = ⟨r, o + n, none⟩ := by
  unfold Addr.add
  split
  · subst n; rfl
  · rfl
theorem mkP_tag (nm off : Nat) : mkP nm off % 32 = 10 := by show (10 + 32 * (nm + 4294967296 * off)) % 32 = 10; omega
theorem mkP_nm (nm off : Nat) (h : nm < 4294967296) : nmOf (mkP nm off) = nm := by show (10 + 32 * (nm + 4294967296 * off)) / 32 % 4294967296 = nm; omega
theorem mkP_off (nm off : Nat) (h : nm < 4294967296) : offP (mkP nm off) = off := by show (10 + 32 * (nm + 4294967296 * off)) / 137438953472 = off; omega
theorem VT.mk_ptr {s : St} {T : List Nat} {e r : Nat} (h : e % 32 = 10) (hr : s.sg (nmOf e) = some r) : VT P hole s T e (.pointer (some ⟨r, offP e, none⟩)) := by
  refine VT.of_VR ?_
  unfold VR
  simp only [h]
  exact ⟨r, hr, rfl⟩
theorem nmOf_lt (e : Nat) : nmOf e < 4294967296 := Nat.mod_lt _ (by omega)

/-- fieldAddr -/
theorem fAddr_ok {t : TypeId} {fields : Array Field} {i : Nat} {fd : Field} {w : Nat} (ht : P.underlying t = some (.struct fields)) (hf : fields[i]? = some fd) (hc : cl P fd.type = some w)
    (ho : fd.offset ≤ 4294967295) : PureU P hole (fAddr (137438953472 * fd.offset)) (fun u => Instr.fieldAt t u i) := by
  intro e m kk x he hm h
  obtain ⟨h1, h⟩ := chk_ok h
  obtain ⟨h2, h⟩ := bc h
  have h2 : offP e ≤ 4294967295 := ble_t h2
  have h2 : e / 137438953472 ≤ 4294967295 := h2
  have e0 : Nat.add e (137438953472 * fd.offset) = e + 137438953472 * fd.offset := rfl
  refine ⟨_, m, h, PStep.refl hm, ?_, fun T s u hT hu => ?_⟩
  · rw [e0]
    exact lt_cB (Nat.lt_trans (m := 2 ^ 80) (by omega) (Nat.pow_lt_pow_right (by omega) (by omega)))
  · obtain ⟨r, h3, rfl⟩ := VT.ptr hu h1
    obtain ⟨hw, _⟩ := cl_ok hc
    have e1 : nmOf (e + 137438953472 * fd.offset) = nmOf e := by
      show (e + 137438953472 * fd.offset) / 32 % 4294967296 = e / 32 % 4294967296
      omega
    have e2 : offP (e + 137438953472 * fd.offset) = offP e + fd.offset := by
      show (e + 137438953472 * fd.offset) / 137438953472 = e / 137438953472 + fd.offset
      omega
    refine ⟨.pointer (some ⟨r, offP e + fd.offset, none⟩), ?_, ?_⟩
    · have : ¬ w = 0 := by omega
      simp [Instr.fieldAt, run_underlying ht, hf, Instr.sureAddr, fieldPlace, cl_run hc, this, addr_add]
    · rw [e0, ← e2]
      exact VT.mk_ptr (by omega) (by rw [e1]; exact h3)

/-- the address of an array's element -/
theorem ixArr_ok {t e : TypeId} {n w : Nat} (ht : P.underlying t = some (.array n e)) (hn : n ≤ 4294967295) (hc : cl P e = some w) :
    PureB P hole (ixArr n (137438953472 * w)) (fun u u' => Instr.indexAt t u u') := by
  intro a b m kk x ha hb hm h
  obtain ⟨h1, h⟩ := chk_ok h
  obtain ⟨h2, h3, h⟩ := natK_ok h
  obtain ⟨h4, h⟩ := bc h
  obtain ⟨h5, h⟩ := bc h
  have h4 : b / 32 + 1 ≤ n := ble_t h4
  have h5 : offP a + w * (b / 32) ≤ 4294967295 := by
    have : offP a + 137438953472 * w * (b / 32) / 137438953472 ≤ 4294967295 := ble_t h5
    rwa [Nat.mul_assoc, Nat.mul_div_cancel_left _ (by omega)] at this
  have h6 : a / 137438953472 + w * (b / 32) ≤ 4294967295 := h5
  have e0 : Nat.add a (Nat.mul (137438953472 * w) (b / 32)) = a + 137438953472 * (w * (b / 32)) := by
    show a + 137438953472 * w * (b / 32) = _
    rw [Nat.mul_assoc]
  refine ⟨_, m, h, PStep.refl hm, ?_, fun T s u u' hT hu hu' => ?_⟩
  · rw [e0]
    exact lt_cB (Nat.lt_trans (m := 2 ^ 80) (by omega) (Nat.pow_lt_pow_right (by omega) (by omega)))
  · obtain ⟨r, h7, rfl⟩ := VT.ptr hu h1
    obtain ⟨k, rfl, _, _⟩ := VT.nat hu' h2 h3 (by omega)
    generalize hi : b / 32 = i at *
    have e1 : nmOf (a + 137438953472 * (w * i)) = nmOf a := by
      show (a + 137438953472 * (w * i)) / 32 % 4294967296 = a / 32 % 4294967296
      omega
    have e2 : offP (a + 137438953472 * (w * i)) = offP a + w * i := by
      show (a + 137438953472 * (w * i)) / 137438953472 = a / 137438953472 + w * i
      omega
    refine ⟨.pointer (some ⟨r, offP a + w * i, none⟩), ?_, ?_⟩
    · simp [Instr.indexAt, asIntOf, run_underlying ht, Instr.sureAddr, cl_run hc, addr_add, Nat.mul_comm]
      intro hh; omega
    · rw [e0, ← e2]
      exact VT.mk_ptr (by omega) (by rw [e1]; exact h7)
end
end Go.Proofs.YgvaqwGreat.Ev
