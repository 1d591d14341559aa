/- Pieces of a run, chained: between two pieces what is no more looked at is forgotten. -/
import Derived.Test.YgvaqwGreatEwI
set_option exponentiation.threshold 400
namespace Go.Proofs.YgvaqwGreat.Ev
open Go

def stopN (x : Exit) (E : Nat) (m : Mem) : R := match x with
  | .normal => some (E, m)
  | _ => none
def stopX (id : Nat) (x : Exit) (E : Nat) (m : Mem) : R := match x with
  | .exit i => Bool.casesOn (Nat.beq i id) none (some (E, m))
  | _ => none
def stopR (x : Exit) (E : Nat) (m : Mem) : R := match x with
  | .ret => some (E, m)
  | _ => none
def Stops (st : KX) (ex : Exit) : Prop := ∀ x E m y, st x E m = some y → x = ex ∧ y = (E, m)
theorem stopN_ok : Stops stopN .normal := by
  intro x E m y h
  cases x
  case normal => cases h; exact ⟨rfl, rfl⟩
  all_goals exact absurd h (by simp [stopN])
theorem stopX_ok (id : Nat) : Stops (stopX id) (.exit id) := by
  intro x E m y h
  cases x
  case exit i =>
    obtain ⟨h1, h2⟩ := bc (show (Bool.casesOn (Nat.beq i id) none (some (E, m)) : R) = some y from h)
    cases h2
    exact ⟨by rw [beq_t h1], rfl⟩
  all_goals exact absurd h (by simp [stopX])
theorem stopR_ok : Stops stopR .ret := by
  intro x E m y h
  cases x
  case ret => cases h; exact ⟨rfl, rfl⟩
  all_goals exact absurd h (by simp [stopR])

/-- codes in a row, each to its end -/
def evs (P : Program) (N : Nat) (call : CallF) : List Code → Nat → Mem → R
  | [], E, m => some (E, m)
  | c :: r, E, m => (codeF P N c).fn call E m (fun x E m => match x with
    | .normal => evs P N call r E m
    | _ => none)
def nest : List Code → Code → Code
  | [], d => d
  | c :: r, d => .seq c (nest r d)
/-- a temporary kept or forgotten -/
def okT (e e' : Nat) : Bool := Nat.beq e' 0 || (Nat.beq e' e && !Nat.beq (Nat.mod e 32) 20 && !Nat.beq (Nat.mod e 32) 21)
def cleanE (N E E' : Nat) : Bool := (List.range N).all fun t => okT (tg E t) (tg E' t)
def noDup : Hp → Bool
  | [] => true
  | b :: r => (r.all fun c => !Nat.beq b.nm c.nm) && noDup r
/-- alike, whatever the salt -/
def sameK (b c : Blk) : Bool := Nat.beq b.nm c.nm && Nat.beq b.n c.n && Nat.beq b.c c.c && Nat.beq b.el c.el
def cleanB (m m' : Mem) : Bool := Nat.beq m.nx m'.nx && m'.ag.isEmpty && Nat.beq m'.na 0 && Nat.beq m'.wb 0 && m'.hp.all (fun b => m.hp.any (sameK b)) && noDup m'.hp
def cleanR (N : Nat) (r : R) (E' : Nat) (m' : Mem) : Bool := match r with
  | some (E, m) => cleanE N E E' && cleanB m m'
  | none => false
/-- of the spine of a code the first n, and the rest -/
def spine : Nat → Code → List Code × Code
  | n + 1, .seq a b => let r := spine n b; (a :: r.1, r.2)
  | _, c => ([], c)
theorem spine_ok : ∀ (n : Nat) (c : Code), nest (spine n c).1 (spine n c).2 = c := by
  intro n
  induction n with
  | zero => intro c; cases c <;> rfl
  | succ n ih =>
    intro c
    cases c
    case seq a b =>
      show Code.seq a (nest (spine n b).1 (spine n b).2) = _
      rw [ih b]
    all_goals rfl
def unBlock : Code → Code
  | .block _ a => a
  | c => c
def unLoop : Code → Code
  | .loop a => a
  | c => c
def seq1 : Code → Code
  | .seq a _ => a
  | c => c
def seq2 : Code → Code
  | .seq _ b => b
  | c => c

section
variable {P : Program} {hole N : Nat}

theorem VT.any {s : St} {T T' : List Nat} {e : Nat} {u : Value} (h1 : e % 32 ≠ 20) (h2 : e % 32 ≠ 21) (h : VT P hole s T e u) : VT P hole s T' e u := by
  by_cases h0 : e % 32 = 0
  · exact VT.top h0
  · by_cases h22 : e % 32 = 22
    · unfold VT at *
      simp only [h22] at *
      exact h
    · exact VT.of_VR (VR.of_VA h1 (VA.of_VT h0 h2 h22 h))
theorem VT.none {s : St} {T : List Nat} {e : Nat} {u : Value} (h : VT P hole s [] e u) : VT P hole s T e u := by
  by_cases h1 : e % 32 = 20
  · unfold VT VA at h
    simp only [h1] at h
    exact absurd h.1 (by simp)
  · by_cases h2 : e % 32 = 21
    · unfold VT at h
      simp only [h2] at h
      exact absurd h.1 (by simp)
    · exact VT.any h1 h2 h
theorem ERel.none {s : St} {T : List Nat} {E : Nat} {a : Act} (h : ERel P hole s [] N E a) : ERel P hole s T N E a :=
  ⟨h.size, fun t ht => let ⟨v, h1, h2⟩ := h.val t ht; ⟨v, h1, h2.none⟩⟩

theorem sameK_ok {b c : Blk} (h : sameK b c = true) : b.nm = c.nm ∧ b.n = c.n ∧ b.c = c.c ∧ b.el = c.el := by
  simp only [sameK, Bool.and_eq_true] at h
  obtain ⟨⟨⟨q1, q2⟩, q3⟩, q4⟩ := h
  exact ⟨beq_t q1, beq_t q2, beq_t q3, beq_t q4⟩
theorem noDup_ok : ∀ {l : Hp}, noDup l = true → l.Pairwise (fun b c => b.nm ≠ c.nm) := by
  intro l
  induction l with
  | nil => intro _; exact List.Pairwise.nil
  | cons b r ih =>
    intro h
    simp only [noDup, Bool.and_eq_true] at h
    refine List.pairwise_cons.2 ⟨fun c hc => ?_, ih h.2⟩
    have := List.all_eq_true.1 h.1 c hc
    cases hb : Nat.beq b.nm c.nm
    · exact beq_f hb
    · rw [hb] at this; cases this
theorem cleanB_ok {m m' : Mem} (h : cleanB m m' = true) (hm : MOK m) : MOK m' ∧ m'.nx = m.nx ∧ (∀ b ∈ m'.hp, ∃ c ∈ m.hp, b.nm = c.nm ∧ b.n = c.n ∧ b.c = c.c ∧ b.el = c.el) ∧ m'.ag = [] := by
  simp only [cleanB, Bool.and_eq_true] at h
  obtain ⟨⟨⟨⟨⟨h1, h2⟩, h3⟩, h4⟩, h5⟩, h6⟩ := h
  have h1 : m.nx = m'.nx := beq_t h1
  have h3 : m'.na = 0 := beq_t h3
  have h4 : m'.wb = 0 := beq_t h4
  have hag : m'.ag = [] := by simpa using h2
  have hsub : ∀ b ∈ m'.hp, ∃ c ∈ m.hp, b.nm = c.nm ∧ b.n = c.n ∧ b.c = c.c ∧ b.el = c.el := by
    intro b hb
    obtain ⟨c, hc1, hc2⟩ := List.any_eq_true.1 (List.all_eq_true.1 h5 b hb)
    exact ⟨c, hc1, sameK_ok hc2⟩
  exact ⟨⟨fun b hb => by obtain ⟨c, c1, c2, _⟩ := hsub b hb; rw [← h1, c2]; exact hm.nmb c c1, noDup_ok h6, by rw [h3, hag]; rfl, by rw [h4]; exact Nat.zero_le _⟩, h1.symm, hsub, hag⟩
theorem cleanE_ok {E E' : Nat} (h : cleanE N E E' = true) {s : St} {T : List Nat} {a : Act} (x : ERel P hole s T N E a) : ERel P hole s [] N E' a := by
  refine ⟨x.size, fun t ht => ?_⟩
  obtain ⟨v, h1, h2⟩ := x.val t ht
  have := List.all_eq_true.1 h t (by simpa using ht)
  simp only [okT, Bool.or_eq_true, Bool.and_eq_true] at this
  refine ⟨v, h1, ?_⟩
  rcases this with h0 | ⟨⟨h3, h4⟩, h5⟩
  · have h0 : tg E' t = 0 := beq_t h0
    exact VT.top (by rw [h0])
  · have h3 : tg E' t = tg E t := beq_t h3
    have h4 : Nat.mod (tg E t) 32 ≠ 20 := beq_f (by simpa using h4)
    have h5 : Nat.mod (tg E t) 32 ≠ 21 := beq_f (by simpa using h5)
    rw [h3]
    exact h2.any h4 h5

theorem Evo.congr' {s t : St} {S S' Q' : Blk → Prop} {lo hi : Nat} (h : Evo s t S S' lo hi) (h2 : ∀ b, Q' b → ∃ c, S' c ∧ c.nm = b.nm) : Evo s t S Q' lo hi :=
  ⟨h.os, h.out, h.size, h.keep, h.shape, h.froz, h.sg, h.sgn, h.kk, h.kn, fun b hb => by
    obtain ⟨c, c1, c2⟩ := h2 b hb
    obtain ⟨r, e1, e2⟩ := h.new c c1
    exact ⟨r, by rw [← c2]; exact e1, e2⟩⟩
/-- where the run stands: s0 the start -/
def At (P : Program) (hole N : Nat) (s0 : St) (m0 : Mem) (E : Nat) (m : Mem) (a : Act) (w : World) : Prop :=
  MOK m ∧ m.ag = [] ∧ m0.nx ≤ m.nx ∧ ∃ s : St, s.w = w ∧ ERel P hole s [] N E a ∧ a.defers = [] ∧ Rel P hole s m ∧ Evo s0 s (· ∈ m0.hp) (· ∈ m.hp) m0.nx m.nx
/-- the start has no names beyond -/
def Bare (s0 : St) (m0 : Mem) : Prop := ∀ n, m0.nx ≤ n → s0.sg n = none
theorem Bare.fresh {s0 s : St} {m0 m : Mem} (h : Bare s0 m0) (e : Evo s0 s (· ∈ m0.hp) (· ∈ m.hp) m0.nx m.nx) (hle : m0.nx ≤ m.nx) (k : Nat) : Fresh s.sg m.nx k :=
  Fresh.evo (hi := k) (fun n a _ => h n a) e hle

theorem at_clean {s0 : St} {m0 : Mem} {E' E'' : Nat} {m m' m'' : Mem} {T : List Nat} {s : St} {a0 a : Act} {w : World} {ex e : Exit} (hm : MStep m m') (hle : m0.nx ≤ m.nx) (he : cleanE N E' E'' = true) (hb : cleanB m' m'' = true)
    (e0 : Evo s0 s (· ∈ m0.hp) (· ∈ m.hp) m0.nx m.nx) (hd : a0.defers = []) (h : Post P hole N ex T s m m' E' a0 e a w) : e = ex ∧ At P hole N s0 m0 E'' m'' a w := by
  obtain ⟨q1, s', q2, q3, q4, q5, q6⟩ := h
  obtain ⟨c1, c2, c3, c4⟩ := cleanB_ok hb hm.ok
  refine ⟨q1, c1, c4, by rw [c2]; exact Nat.le_trans hle hm.nx, s', q2, cleanE_ok he q3, q4.trans hd, ⟨fun b hb => ?_, fun b b' hb hb' hs => ?_, q5.kin⟩, ?_⟩
  · obtain ⟨c, d1, d2, d3, d4, d5⟩ := c3 b hb
    obtain ⟨r, cells, z1, z2, z3, z4, z5⟩ := q5.blk c d1
    exact ⟨r, cells, by rw [d2]; exact z1, by rw [d5]; exact z2, by rw [d3]; exact z3, z4, by rw [d3, d4]; exact z5⟩
  · obtain ⟨c, d1, d2, _⟩ := c3 b hb
    obtain ⟨c', d1', d2', _⟩ := c3 b' hb'
    have hcc := q5.inj c c' d1 d1' (by rw [← d2, ← d2']; exact hs)
    exact c1.uniq hb hb' (by rw [d2, d2', hcc])
  · rw [c2]
    exact (e0.trans q6 hle hm.nx).congr' fun b hb => by
      obtain ⟨c, d1, d2, _⟩ := c3 b hb
      exact ⟨c, d1, d2.symm⟩

/-- one piece -/
theorem piece {call : CallF} (hc : CallOK P hole call) (hmo : P.follows .mixedOrders = true) {c : Code} {st : KX} {ex : Exit} (hst : Stops st ex) {E E' : Nat} {m m' : Mem} (h : cleanR N ((codeF P N c).fn call E m st) E' m' = true)
    {s0 : St} {m0 : Mem} (hb : Bare s0 m0) {a : Act} {w : World} (hat : At P hole N s0 m0 E m a w) : c.wp P (fun e a' w' => e = ex ∧ At P hole N s0 m0 E' m' a' w') a w := by
  obtain ⟨hm, hag, hle, s, rfl, hE, hd, hR, hev⟩ := hat
  unfold cleanR at h
  split at h
  · rename_i E1 m1 hrun
    rw [Bool.and_eq_true] at h
    obtain ⟨ex', E2, m2, h1, h2, h3⟩ := codeF_ok (N := N) hc hmo c hm hrun
    obtain ⟨g1, g2⟩ := hst _ _ _ _ h1
    cases g2
    subst g1
    refine wp_mono (h3 m1.ag s a (Suf.refl _) hE.none hR (hb.fresh hev hle _)) fun e a' w' hq => at_clean h2 hle h.1 h.2 hev hd hq
  · cases h

/-- codes in a row -/
theorem evs_ok {call : CallF} (hc : CallOK P hole call) (hmo : P.follows .mixedOrders = true) : ∀ (l : List Code) {E : Nat} {m : Mem} {E' : Nat} {m' : Mem}, MOK m → evs P N call l E m = some (E', m') →
    MStep m m' ∧ ∀ (T : List Nat) (s : St) (a : Act) (rest : Code) (Q : Exit → Act → World → Prop), Suf m'.ag T → ERel P hole s T N E a → Rel P hole s m → Fresh s.sg m.nx m'.nx →
      (∀ a' w', Post P hole N .normal T s m m' E' a .normal a' w' → rest.wp P Q a' w') → (nest l rest).wp P Q a s.w := by
  intro l
  induction l with
  | nil =>
    intro E m E' m' hm h
    cases h
    exact ⟨MStep.refl hm, fun T s a rest Q hT hE hR hf hk => hk a s.w ⟨rfl, s, rfl, hE, rfl, hR, Evo.same hR fun _ h => h⟩⟩
  | cons c l ih =>
    intro E m E' m' hm h
    obtain ⟨ex, E1, m1, h1, h2, h3⟩ := codeF_ok (N := N) hc hmo c hm (show (codeF P N c).fn call E m _ = some (E', m') from h)
    cases ex
    case normal =>
      obtain ⟨g2, g3⟩ := ih h2.ok h1
      refine ⟨h2.trans g2, fun T s a rest Q hT hE hR hf hk => wp_seq (wp_mono (h3 T s a (g2.ag.trans hT) hE hR (hf.mono (Nat.le_refl _) g2.nx)) fun e a' w' hq => ?_)⟩
      obtain ⟨rfl, s1, q1, q2, q3, q4, q5⟩ := hq
      show (nest l rest).wp P Q a' w'
      rw [← q1]
      exact g3 T s1 a' rest Q hT q2 q4 (hf.evo q5 h2.nx) fun a'' w'' hq => hk a'' w'' (Post.trans q5 q3 h2.nx g2.nx hq)
    all_goals exact absurd h1 (by simp)
theorem row {call : CallF} (hc : CallOK P hole call) (hmo : P.follows .mixedOrders = true) {l : List Code} {E E' : Nat} {m m' : Mem} (h : cleanR N (evs P N call l E m) E' m' = true)
    {s0 : St} {m0 : Mem} (hb : Bare s0 m0) {rest : Code} {Q : Exit → Act → World → Prop} (hk : ∀ a' w', At P hole N s0 m0 E' m' a' w' → rest.wp P Q a' w') {a : Act} {w : World} (hat : At P hole N s0 m0 E m a w) : (nest l rest).wp P Q a w := by
  obtain ⟨hm, hag, hle, s, rfl, hE, hd, hR, hev⟩ := hat
  unfold cleanR at h
  split at h
  · rename_i E1 m1 hrun
    rw [Bool.and_eq_true] at h
    obtain ⟨h2, h3⟩ := evs_ok (hole := hole) (N := N) hc hmo l hm hrun
    exact h3 m1.ag s a rest Q (Suf.refl _) hE.none hR (hb.fresh hev hle _) fun a' w' hq => hk a' w' (at_clean h2 hle h.1 h.2 hev hd hq).2
  · cases h

/-- a loop's rounds: the state of round i -/
theorem rounds {call : CallF} (hc : CallOK P hole call) (hmo : P.follows .mixedOrders = true) {c : Code} {Es : Nat → Nat} {ms : Nat → Mem} {n id : Nat} {E' : Nat} {m' : Mem} (h : ∀ i, i < n → cleanR N ((codeF P N c).fn call (Es i) (ms i) stopN) (Es (i + 1)) (ms (i + 1)) = true)
    (hx : cleanR N ((codeF P N c).fn call (Es n) (ms n) (stopX id)) E' m' = true) {s0 : St} {m0 : Mem} (hb : Bare s0 m0) {Q : Exit → Act → World → Prop} (hk : ∀ a' w', At P hole N s0 m0 E' m' a' w' → Q (.exit id) a' w')
    {a : Act} {w : World} (hat : At P hole N s0 m0 (Es 0) (ms 0) a w) : (Code.loop c).wp P Q a w := by
  have key : ∀ k i, i + k = n → ∀ a w, At P hole N s0 m0 (Es i) (ms i) a w → Rounds P c Q (k + 1) a w := by
    intro k
    induction k with
    | zero =>
      intro i hi a w hat
      obtain rfl : i = n := by omega
      refine wp_mono (piece hc hmo (stopX_ok id) hx hb hat) fun e a' w' hq => ?_
      obtain ⟨rfl, hq⟩ := hq
      exact hk a' w' hq
    | succ k ih =>
      intro i hi a w hat
      refine wp_mono (piece hc hmo stopN_ok (h i (by omega)) hb hat) fun e a' w' hq => ?_
      obtain ⟨rfl, hq⟩ := hq
      exact ih (i + 1) (by omega) a' w' hq
  exact wp_rounds (key n 0 (by omega) a w hat)
end
end Go.Proofs.YgvaqwGreat.Ev
