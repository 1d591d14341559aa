/- Regions that are run by the index; code; functions. -/
import Derived.Test.YgvaqwGreatEvU
set_option exponentiation.threshold 400
namespace Go.Proofs.YgvaqwGreat.Ev
open Go
section
variable {P : Program} {hole N : Nat}

theorem erel_put {s : St} {T : List Nat} {E v : Nat} {a : Act} {u : Value} {d : Nat} (h : ERel P hole s T N E a) (hv : VT P hole s T v u) (hlt : v < cB) (hd : d < N) (K : Nat) : ERel P hole s T N (jmp E (320 * (d + 1)) K v) (a.put (some d) u) := by
  refine ⟨by simp [Act.put, h.size], fun t ht => ?_⟩
  rw [tg_jmp hlt]
  simp only [Act.put]
  rw [Array.getElem?_setIfInBounds]
  by_cases htd : d = t
  · subst htd
    rw [if_pos rfl, if_pos (by rw [h.size]; exact hd), if_pos rfl]
    exact ⟨u, rfl, hv⟩
  · rw [if_neg htd, if_neg (fun e => htd e.symm)]
    exact h.val t ht
theorem ERel.envO {s : St} {T : List Nat} {E : Nat} {a : Act} (h : ERel P hole s T N E a) (o : Oper) : EnvO P hole N o s T E a := ⟨h.size, fun t _ ht => h.val t ht⟩
theorem VT.mk_undef {s : St} {T : List Nat} : VT P hole s T 22 undef := by unfold VT; exact ⟨rfl, rfl⟩

/-- what a piece of code ends in -/
def Post (P : Program) (hole N : Nat) (ex : Exit) (T : List Nat) (s : St) (m m' : Mem) (E' : Nat) (a0 : Act) (e : Exit) (a' : Act) (w' : World) : Prop :=
  e = ex ∧ ∃ s' : St, s'.w = w' ∧ ERel P hole s' T N E' a' ∧ a'.defers = a0.defers ∧ Rel P hole s' m' ∧ Evo s s' (· ∈ m.hp) (· ∈ m'.hp) m.nx m'.nx

theorem Fresh.mono {sg : Nat → Option Nat} {lo hi lo' hi' : Nat} (h : Fresh sg lo hi) (h1 : lo ≤ lo') (h2 : hi' ≤ hi) : Fresh sg lo' hi' := fun n a b => h n (by omega) (by omega)
theorem Fresh.evo {s t : St} {S S' : Blk → Prop} {lo mid hi : Nat} (h : Fresh s.sg lo hi) (e : Evo s t S S' lo mid) (h1 : lo ≤ mid) : Fresh t.sg mid hi := by
  intro n a b
  by_cases hn : t.sg n = s.sg n
  · rw [hn]; exact h n (by omega) b
  · have := e.sgn n hn; omega
theorem Post.trans {ex : Exit} {T : List Nat} {s s1 : St} {m m1 m' : Mem} {E' : Nat} {a0 a1 : Act} (e1 : Evo s s1 (· ∈ m.hp) (· ∈ m1.hp) m.nx m1.nx) (hd : a1.defers = a0.defers) (h1 : m.nx ≤ m1.nx) (h2 : m1.nx ≤ m'.nx) {e : Exit} {a : Act} {w : World}
    (h : Post P hole N ex T s1 m1 m' E' a1 e a w) : Post P hole N ex T s m m' E' a0 e a w := by
  obtain ⟨q1, s', q2, q3, q4, q5, q6⟩ := h
  exact ⟨q1, s', q2, q3, q4.trans hd, q5, e1.trans q6 h1 h2⟩

/-- the guard says what the model's guard says -/
theorem grd_yes {ops : Array Oper} {j d : Nat} {want : Bool} {s : St} {T : List Nat} {E : Nat} {a : Act} (hj : gtmp N ops.toList j = some d) (ha : ∃ v, a.tmps[d]? = some v ∧ VT P hole s T (tg E d) v)
    (h : tg E d = (match want with | true => 41 | false => 9)) : (yielded ops a.tmps j == some want) = true := by
  unfold gtmp at hj
  split at hj
  · rename_i oj hoj
    split at hj
    · rename_i d' hd
      split at hj
      · cases hj
        obtain ⟨v, h1, h2⟩ := ha
        have hv : v = .bool want := by
          rw [h] at h2
          obtain ⟨b, h3, h4⟩ := VT.bool h2 (by cases want <;> rfl)
          rw [h3]
          cases want <;> cases b <;> first | rfl | exact absurd h4 (by decide)
        have hoj' : ops[j]? = some oj := by simpa using hoj
        simp [yielded, hoj', hd, h1, hv]
      · cases hj
    · cases hj
  · cases hj
theorem saysNo_ok {x want : Nat} (h : saysNo x want = true) : x = 50 - want ∨ x = 22 := by
  unfold saysNo at h
  cases h1 : Nat.beq x (Nat.sub 50 want)
  · rw [h1] at h; exact .inr (beq_t h)
  · exact .inl (beq_t h1)
theorem grd_no {ops : Array Oper} {j d : Nat} {want : Bool} {s : St} {T : List Nat} {E : Nat} {a : Act} (hj : gtmp N ops.toList j = some d) (ha : ∃ v, a.tmps[d]? = some v ∧ VT P hole s T (tg E d) v)
    (h : saysNo (tg E d) (match want with | true => 41 | false => 9) = true) : (yielded ops a.tmps j == some want) = false := by
  unfold gtmp at hj
  split at hj
  · rename_i oj hoj
    split at hj
    · rename_i d' hd
      split at hj
      · cases hj
        obtain ⟨v, h1, h2⟩ := ha
        have hoj' : ops[j]? = some oj := by simpa using hoj
        rcases saysNo_ok h with h | h
        · have hv : v = .bool (!want) := by
            rw [h] at h2
            obtain ⟨b, h3, h4⟩ := VT.bool h2 (by cases want <;> rfl)
            rw [h3]
            cases want <;> cases b <;> first | rfl | exact absurd h4 (by decide)
          simp [yielded, hoj', hd, h1, hv]
        · have hv : v = undef := by
            rw [h] at h2
            exact h2.2
          simp [yielded, hoj', hd, h1, hv, undef]
      · cases hj
    · cases hj
  · cases hj
theorem gtmp_lt {all : List Oper} {j d : Nat} (h : gtmp N all j = some d) : d < N := by
  unfold gtmp at h
  split at h
  · split at h
    · split at h
      · rename_i hb
        cases h
        exact Nat.le_of_ble_eq_true hb
      · cases h
    · cases h
  · cases h

theorem grd_split {g want : Nat} {c r : RegF} {p : PutF} {call : CallF} {E : Nat} {m : Mem} {k : Nat → Mem → R} {x : Nat × Mem} (h : (grd g want c r p).fn call E m k = some x) :
    (pgS E g = want ∧ c.fn call E m k = some x) ∨ (saysNo (pgS E g) want = true ∧ r.fn call (p.fn E 22) m k = some x) := by
  simp only [grd] at h
  cases hb : Nat.beq (pgS E g) want
  · rw [hb] at h
    obtain ⟨h1, h2⟩ := bc h
    rw [forceN_eq] at h2
    exact .inr ⟨h1, h2⟩
  · rw [hb] at h
    exact .inl ⟨beq_t hb, h⟩
theorem LetsOut.mono {Q Q' : Exit → Act → World → Prop} (hq : ∀ e a w, Q e a w → Q' e a w) (h : LetsOut Q) : LetsOut Q' := let ⟨a, w, h⟩ := h; ⟨a, w, hq _ _ _ h⟩
theorem oper_mono {o : Oper} {a : Act} {w : World} {K K' : Act → World → Prop} {Q Q' : Exit → Act → World → Prop} (h : ∀ a w, K a w → K' a w) (hq : ∀ e a w, Q e a w → Q' e a w)
    (hh : o.wp P a w K Q) : o.wp P a w K' Q' := by
  unfold Oper.wp at *
  generalize (execOp a.eval o).run P w = r at *
  cases r with
  | ok n w' =>
    cases n <;> simp only [Oper.upon] at hh ⊢ <;>
      first
        | exact h _ _ hh
        | exact Calls.mono hh (fun e w'' he => by cases e <;> first | exact h _ _ he | exact hq _ _ _ he | exact LetsOut.mono hq he)
        | exact Rows.mono hh (fun _ _ he => h _ _ he)
  | halt x w' => cases x <;> simp only [Oper.upon] at hh ⊢ <;> first | exact hq _ _ _ hh | exact hh
theorem wpOps_mono {ops : Array Oper} {Q Q' : Exit → Act → World → Prop} (hq : ∀ e a w, Q e a w → Q' e a w) : ∀ (l : List Nat) (a : Act) (w : World), wpOps P ops Q l a w → wpOps P ops Q' l a w := by
  intro l
  induction l with
  | nil => intro a w h; exact hq _ _ _ h
  | cons i l ih =>
    intro a w h
    rw [wpOps_cons] at h ⊢
    unfold wpOp at *
    split
    · exact ih _ _ (by simpa [*] using h)
    · rename_i o ho
      simp only [ho] at h
      split
      · rename_i hw
        simp only [hw, if_true] at h
        exact h.elim (fun z => .inl (oper_mono ih hq z)) (fun q => .inr ⟨q.1, LetsOut.mono hq q.2⟩)
      · rename_i hw
        simp only [hw] at h
        exact ih _ _ h

theorem range_cons {i n : Nat} (h : i < n) : List.range' i (n - i) = i :: List.range' (i + 1) (n - (i + 1)) := by
  rw [show n - i = (n - (i + 1)) + 1 by omega, List.range'_succ]

/-- where an operation's result goes -/
theorem dstK_ok {d : Option Tmp} {k : PutF → RegF} {call : CallF} {E : Nat} {m : Mem} {kk : Nat → Mem → R} {x : Nat × Mem} (h : (dstK N d k).fn call E m kk = some x) :
    ∃ p, (k p).fn call E m kk = some x ∧ ∀ (s : St) (T : List Nat) E v a u, ERel P hole s T N E a → VT P hole s T v u → v < cB → ERel P hole s T N (p.fn E v) (a.put d u) := by
  unfold dstK at h
  cases d with
  | none => exact ⟨noPut, h, fun s T E v a u h _ _ => h⟩
  | some t =>
    simp only at h
    split at h
    · rename_i hb
      refine ⟨putF t, h, fun s T E v a u h hv hlt => ?_⟩
      obtain ⟨s', rfl, hK⟩ := putF_eq t
      rw [hK]
      exact erel_put h hv hlt (Nat.le_of_ble_eq_true hb) _
    · exact absurd h (by simp [badR])

theorem opsF_ok {call : CallF} (hc : CallOK P hole call) (ops : Array Oper) : ∀ (rest : List Oper) (i : Nat), ops.toList.drop i = rest → ∀ {E : Nat} {m : Mem} {k : Nat → Mem → R} {x : Nat × Mem}, MOK m →
    (opsF P N ops.toList rest).fn call E m k = some x → ∃ E' m', k E' m' = some x ∧ MStep m m' ∧ ∀ (T : List Nat) (s : St) (a : Act), Suf m'.ag T → ERel P hole s T N E a → Rel P hole s m → Fresh s.sg m.nx m'.nx →
      wpOps P ops (Post P hole N .normal T s m m' E' a) (List.range' i (ops.size - i)) a s.w := by
  intro rest
  induction rest with
  | nil =>
    intro i hi E m k x hm hx
    have hle : ops.size ≤ i := by simpa using List.drop_eq_nil_iff.1 hi
    refine ⟨E, m, hx, MStep.refl hm, fun T s a hT hE hR hf => ?_⟩
    rw [show ops.size - i = 0 by omega]
    exact ⟨rfl, s, rfl, hE, rfl, hR, Evo.same hR fun _ h => h⟩
  | cons o rest ih =>
    intro i hi E m k x hm hx
    have hlt : i < ops.size := by
      rcases Nat.lt_or_ge i ops.size with h | h
      · exact h
      · rw [List.drop_eq_nil_of_le (by simpa using h)] at hi; cases hi
    have hoi : ops[i]? = some o := by
      have : ops.toList[i]? = some o := by
        have := congrArg (·[0]?) hi
        simpa using this
      simpa using this
    have hrest : ops.toList.drop (i + 1) = rest := by
      have := congrArg List.tail hi
      simpa using this
    -- the operation is run
    have yes : ∀ {p : PutF}, (∀ (s : St) (T : List Nat) E v a u, ERel P hole s T N E a → VT P hole s T v u → v < cB → ERel P hole s T N (p.fn E v) (a.put o.dst u)) →
        (seqR (opF P N o.op) p (opsF P N ops.toList rest)).fn call E m k = some x →
        ∃ E' m', k E' m' = some x ∧ MStep m m' ∧ ∀ (T : List Nat) (s : St) (a : Act), Suf m'.ag T → ERel P hole s T N E a → Rel P hole s m → Fresh s.sg m.nx m'.nx → Region.wanted o (yielded ops a.tmps) = true →
          wpOps P ops (Post P hole N .normal T s m m' E' a) (List.range' i (ops.size - i)) a s.w := by
      intro p hp hx
      obtain ⟨v, m1, h1, h2⟩ := opF_sem hc o hm hx
      rw [forceN_eq] at h1
      have h3 := h2.any hm
      obtain ⟨E', m', h4, h5, h6⟩ := ih (i + 1) hrest h3.1.ok h1
      refine ⟨E', m', h4, h3.1.trans h5, fun T s a hT hE hR hf hw => ?_⟩
      rw [range_cons hlt, wpOps_cons]
      unfold wpOp
      rw [hoi]
      simp only [hw, if_true]
      refine .inl (h3.2 T s a (h5.ag.trans hT) (hE.envO o) hR (hf.mono (Nat.le_refl _) h5.nx) _ _ fun u w ⟨s1, g1, g2, g3, g4⟩ => ?_)
      rw [← g1]
      have := h6 T s1 (a.put o.dst u) hT (hp s1 T E v a u (hE.le (g4.le hR)) g3 h2.1) g2 (hf.evo g4 h3.1.nx)
      exact wpOps_mono (fun e a' w' hq => Post.trans g4 (by cases o.dst <;> rfl) h3.1.nx h5.nx hq) _ _ _ this
    -- it is left out
    have no : ∀ {p : PutF}, (∀ (s : St) (T : List Nat) E v a u, ERel P hole s T N E a → VT P hole s T v u → v < cB → ERel P hole s T N (p.fn E v) (a.put o.dst u)) →
        (opsF P N ops.toList rest).fn call (p.fn E 22) m k = some x →
        ∃ E' m', k E' m' = some x ∧ MStep m m' ∧ ∀ (T : List Nat) (s : St) (a : Act), Suf m'.ag T → ERel P hole s T N E a → Rel P hole s m → Fresh s.sg m.nx m'.nx → Region.wanted o (yielded ops a.tmps) = false →
          wpOps P ops (Post P hole N .normal T s m m' E' a) (List.range' i (ops.size - i)) a s.w := by
      intro p hp hx
      obtain ⟨E', m', h4, h5, h6⟩ := ih (i + 1) hrest hm hx
      refine ⟨E', m', h4, h5, fun T s a hT hE hR hf hw => ?_⟩
      rw [range_cons hlt, wpOps_cons]
      unfold wpOp
      rw [hoi]
      simp only [hw]
      have := h6 T s (a.put o.dst undef) hT (hp s T E 22 a undef hE VT.mk_undef (lt_cB (by decide +kernel))) hR hf
      exact wpOps_mono (fun e a' w' ⟨q1, s', q2, q3, q4, q5⟩ => ⟨q1, s', q2, q3, q4.trans (by cases o.dst <;> rfl), q5⟩) _ _ _ this
    unfold opsF at hx
    split at hx
    · rename_i hg
      obtain ⟨p, hx, hp⟩ := dstK_ok (P := P) (hole := hole) hx
      obtain ⟨E', m', h1, h2, h3⟩ := yes hp hx
      exact ⟨E', m', h1, h2, fun T s a hT hE hR hf => h3 T s a hT hE hR hf (by simp [Region.wanted, hg])⟩
    · rename_i j want hg
      split at hx
      · rename_i d hd
        obtain ⟨p, hx, hp⟩ := dstK_ok (P := P) (hole := hole) hx
        have hw : ∀ a : Act, Region.wanted o (yielded ops a.tmps) = (yielded ops a.tmps j == some want) := fun a => by simp [Region.wanted, hg]
        rcases grd_split hx with ⟨hb, hx⟩ | ⟨hb, hx⟩
        · obtain ⟨E', m', h1, h2, h3⟩ := yes hp hx
          exact ⟨E', m', h1, h2, fun T s a hT hE hR hf => h3 T s a hT hE hR hf (by rw [hw]; exact grd_yes hd (hE.val d (gtmp_lt hd)) hb)⟩
        · obtain ⟨E', m', h1, h2, h3⟩ := no hp hx
          exact ⟨E', m', h1, h2, fun T s a hT hE hR hf => h3 T s a hT hE hR hf (by rw [hw]; exact grd_no hd (hE.val d (gtmp_lt hd)) hb)⟩
      · exact absurd hx (by simp [badR])
end
end Go.Proofs.YgvaqwGreat.Ev
