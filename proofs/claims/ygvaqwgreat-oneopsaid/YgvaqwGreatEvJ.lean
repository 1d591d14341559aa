/- The evaluator's operations against the model's: operands; composite values; equality of byte arrays; strings. -/
import Derived.Test.YgvaqwGreatEvI
set_option exponentiation.threshold 400
namespace Go.Proofs.YgvaqwGreat.Ev
open Go
section
variable {P : Program} {hole : Nat}

/-! ### operands -/
theorem encI_lt (k : IntKind) (n : Int) : encI k n < cB := by
  have h := kmod_bd k
  unfold encI
  split
  · exact int_lt_cB (Nat.mod_lt _ (by omega))
  · rename_i m
    have := Nat.mod_lt m (show 0 < kmod k by omega)
    exact int_lt_cB (p := kmod k - 1 - m % kmod k) (by omega)
theorem encV_lt (v : Value) : encV v < cB := by
  unfold encV
  split
  · split
    · exact encI_lt _ _
    · exact lt_cB (by decide +kernel)
  all_goals exact lt_cB (by decide +kernel)
theorem sel_lt (N : Nat) (x : Operand) (E : Nat) : (sel N x).fn E < cB := by
  unfold sel
  split
  · split
    · rw [forceN_eq]; exact pg_lt E _
    · exact lt_cB (show (0 : Nat) < 2 ^ 300 by decide +kernel)
  · rw [forceN_eq]; exact encV_lt _
  · exact lt_cB (show (0 : Nat) < 2 ^ 300 by decide +kernel)
theorem encV_ok {s : St} {T : List Nat} {v : Value}  : VT P hole s T (encV v) v := by
  unfold encV
  split
  · rename_i k n
    split
    case h_2 => exact VT.top rfl
    rename_i h
    have h1 : k.wrap n = n := of_decide_eq_true h
    rw [wrap_eq] at h1
    have hb := kmod_bd k
    have e : encI k n = ktag k + 32 * (n % (kmod k : Int)).toNat := by
      unfold encI
      split
      · rename_i m; rfl
      · rename_i m
        congr 2
        have := Nat.mod_lt m (show 0 < kmod k by omega)
        rw [Int.negSucc_emod _ (by omega)]
        have : ((m : Int) % (kmod k : Int)) = ((m % kmod k : Nat) : Int) := by rw [Int.natCast_emod]
        omega
    rw [e]
    have := VT.mk_int (P := P) (hole := hole) (s := s) (T := T) (k := k) (p := (n % (kmod k : Int)).toNat) (by
      have := Int.emod_lt_of_pos n (show (0 : Int) < kmod k by omega)
      have := Int.emod_nonneg n (show (kmod k : Int) ≠ 0 by omega)
      omega)
    rwa [h1] at this
  · exact VT.mk_bool true
  · exact VT.mk_bool false
  · exact VT.mk_nil
  · refine VT.of_VR ?_
    exact ⟨rfl, rfl⟩
  · exact VT.top rfl
theorem sel_ok {N E : Nat} {s : St} {T : List Nat} {a : Act} (x : Operand) (h : ERel P hole s T N E a) : VT P hole s T ((sel N x).fn E) (a.eval x) := by
  unfold sel
  split
  · rename_i t
    split
    · rename_i ht
      rw [forceN_eq]
      have ht : t + 1 ≤ N := Nat.le_of_ble_eq_true ht
      obtain ⟨v, h1, h2⟩ := h.val t ht
      have : a.eval (.tmp t) = v := by simp [Act.eval, h1]
      rw [this]
      exact h2
    · exact VT.top rfl
  · rw [forceN_eq]
    exact encV_ok
  · exact VT.top rfl

/-! ### composite values -/
theorem foldl_size (off : Nat) : ∀ (l : List (Value × Nat)) (cs : Array Value), (l.foldl (fun (cs : Array Value) (x : Value × Nat) => cs.setIfInBounds (off + x.2) x.1) cs).size = cs.size
  | [], _ => rfl
  | x :: l, cs => by rw [List.foldl_cons, foldl_size off l]; simp
theorem fillF_ok {N M : Nat} {place place' : Nat → Option (Nat × Nat)} (hp : ∀ i ow, place i = some ow → place' i = some ow) :
    ∀ (parts : List (Nat × Operand)) {E : Nat} {m : Mem} {c : Nat} {k : Nat → R} {x : Nat × Mem}, (fillF N M place parts).fn E m c k = some x → MOK m →
      ∃ c', k c' = some x ∧ ∀ (T : List Nat) (s : St) (a : Act) (cs : Array Value), Suf m.ag T → Env P hole N s T E a → cs.size = M → c < 2 ^ (320 * M) →
        (∀ j, j < M → ∃ u, cs[j]? = some u ∧ VR P hole s (pg c j) u) →
        ∃ cs', Instr.fill place' cs (parts.map fun y => (y.1, a.eval y.2)) = some cs' ∧ cs'.size = M ∧ c' < 2 ^ (320 * M) ∧ ∀ j, j < M → ∃ u, cs'[j]? = some u ∧ VR P hole s (pg c' j) u := by
  intro parts
  induction parts with
  | nil =>
    intro E m c k x h hm
    exact ⟨c, h, fun T s a cs _ _ h1 h2 h3 => ⟨cs, rfl, h1, h2, h3⟩⟩
  | cons p r ih =>
    intro E m c k x h hm
    unfold fillF at h
    split at h
    · rename_i off w hpl
      split at h
      · rename_i hb
        have hb : off + w ≤ M := ble_t hb
        have h : cellsK w ((sel N p.2).fn E) m (fun q => (fillF N M place r).fn E m (rp c off w q) k) = some x := h
        obtain ⟨q, h1, h2⟩ := cellsK_ok (P := P) (hole := hole) h hm (sel_lt N p.2 E)
        obtain ⟨c', h3, h4⟩ := ih h1 hm
        refine ⟨c', h3, fun T s a cs hT ha hcs hc hv => ?_⟩
        obtain ⟨e1, e2, e3⟩ := h2 T s _ hT (ha p.2)
        let cs1 : Array Value := ((a.eval p.2).cells.zipIdx.foldl (fun cs (x : Value × Nat) => cs.setIfInBounds (off + x.2) x.1) cs)
        have hsz : cs1.size = M := by
          show ((a.eval p.2).cells.zipIdx.foldl _ cs).size = M
          rw [← Array.foldl_toList, foldl_size, hcs]
        have hget : ∀ j, j < M → cs1[j]? = if off ≤ j ∧ j < off + w then (a.eval p.2).cells[j - off]? else cs[j]? := by
          intro j hj
          show ((a.eval p.2).cells.zipIdx.foldl _ cs)[j]? = _
          rw [← Array.foldl_toList, Array.toList_zipIdx]
          rw [zip_get (a.eval p.2).cells.toList off 0 cs j]
          simp only [Nat.add_zero, Array.length_toList, e2, hcs, hj, and_true]
          split <;> simp
        obtain ⟨cs', f1, f2, f3, f4⟩ := h4 T s a cs1 hT ha hsz (rp_lt hc e1 hb) (by
          intro j hj
          rw [hget j hj, pg_rp e1]
          by_cases hjo : off ≤ j ∧ j < off + w
          · rw [if_pos hjo, if_pos hjo]
            exact e3 (j - off) (by omega)
          · rw [if_neg hjo, if_neg hjo]
            exact hv j hj)
        refine ⟨cs', ?_, f2, f3, f4⟩
        simp only [List.map_cons, Instr.fill, hp _ _ hpl]
        rw [if_neg (by simp [e2, hcs]; omega)]
        exact f1
      · exact absurd h (by simp)
    · exact absurd h (by simp)
end
end Go.Proofs.YgvaqwGreat.Ev
