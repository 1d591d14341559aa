/- Regions that draw their order: the run by the index, told step by step; what the static conditions say. -/
import Derived.Test.YgvaqwGreatEvV
set_option exponentiation.threshold 400
namespace Go.Proofs.YgvaqwGreat.Ev
open Go
section
variable {P : Program} {hole N : Nat}

/-- one step of the run: the temporaries and the memory ahead of it, its result, the memory behind it, whether it was taken -/
structure Rec where
  E : Nat
  m : Mem
  v : Nat
  o : Mem
  tk : Bool
def wcode (want : Bool) : Nat := match want with | true => 41 | false => 9
structure StepD (P : Program) (hole N : Nat) (ops : Array Oper) (o : Oper) (r r' : Rec) : Prop where
  ok : MOK r.m
  wl : r.m.wl = []
  dst : ∀ d, o.dst = some d → d < N
  put : ∀ t, t < N → tg r'.E t = if o.dst = some t then r.v else tg r.E t
  guard0 : o.guard = none → r.tk = true
  guard1 : ∀ g want, o.guard = some (g, want) → ∃ d, gtmp N ops.toList g = some d ∧ (r.tk = true → tg r.E d = wcode want) ∧ (r.tk = false → saysNo (tg r.E d) (wcode want) = true)
  yes : r.tk = true → OpSem P hole N o r.E r.m r.v r.o
  no : r.tk = false → r.v = 22 ∧ r.o = r.m
  next : r'.m = if kindD P o.op = 3 then ⟨r.o.hp, r.o.nx, r.o.ag, r.o.na, r.o.wb, []⟩ else r.o

theorem dstD_ok {d : Option Tmp} {k : PutF → DregF} {call : CallF} {E : Nat} {m : Mem} {ws : List (List Nat)} {kk : Nat → Mem → List (List Nat) → R} {x : Nat × Mem} (h : (dstD N d k).fn call E m ws kk = some x) :
    ∃ p, (k p).fn call E m ws kk = some x ∧ (∀ t, d = some t → t < N) ∧ ∀ E v t, v < cB → tg (p.fn E v) t = if d = some t then v else tg E t := by
  unfold dstD at h
  cases d with
  | none => exact ⟨noPut, h, fun t ht => (by cases ht), fun E v t _ => by simp [noPut]⟩
  | some t =>
    simp only at h
    split at h
    · rename_i hb
      refine ⟨putF t, h, fun t' ht => (by cases ht; exact Nat.le_of_ble_eq_true hb), fun E v t' hlt => ?_⟩
      obtain ⟨s', rfl, hK⟩ := putF_eq t
      rw [hK, tg_jmp hlt]
      by_cases h : t' = t
      · rw [if_pos h, if_pos (by rw [h])]
      · rw [if_neg h, if_neg (fun e => h (by cases e; rfl))]
    · exact absurd h (by simp [badD])

theorem OpSem.ok {o : Oper} {E : Nat} {m m' : Mem} {v : Nat} (hm : MOK m) (h : OpSem P hole N o E m v m') : MStep m m' := (h.any hm).1
theorem OpSem.wl {o : Oper} {E : Nat} {m m' : Mem} {v : Nat} (h : OpSem P hole N o E m v m') (hk : kindD P o.op ≠ 3) : m'.wl = m.wl := by
  rcases h with ⟨_, ⟨_, h, _⟩ | ⟨_, h, _⟩ | ⟨_, b, _, _, _, _, _, h, _⟩ | ⟨h, _⟩⟩
  · exact h.wl
  · exact h.wl
  · exact h
  · exact absurd h hk

def isE (P : Program) (ops : Array Oper) (i : Nat) : Bool := Nat.beq (kindD P (ops.toList.getD i default).op) 3
def logs (P : Program) (ops : Array Oper) (f : Nat → Rec) (l : List Nat) : List (List Nat) := ((l.filter (isE P ops)).reverse).map fun j => (f j).o.wl

theorem dopsF_ok {call : CallF} (hc : CallOK P hole call) (ops : Array Oper) : ∀ (rest : List Oper) (i : Nat), ops.toList.drop i = rest → ∀ {E : Nat} {m : Mem} {ws : List (List Nat)} {k : Nat → Mem → List (List Nat) → R} {x : Nat × Mem}, MOK m → m.wl = [] →
    (dopsF P N ops.toList rest).fn call E m ws k = some x → ∃ f : Nat → Rec, (f i).E = E ∧ (f i).m = m ∧ k (f ops.size).E (f ops.size).m (logs P ops f (List.range' i (ops.size - i)) ++ ws) = some x ∧ MOK (f ops.size).m ∧
      ∀ j o, i ≤ j → ops[j]? = some o → StepD P hole N ops o (f j) (f (j + 1)) := by
  intro rest
  induction rest with
  | nil =>
    intro i hi E m ws k x hm hwl hx
    have hle : ops.size ≤ i := by simpa using List.drop_eq_nil_iff.1 hi
    refine ⟨fun _ => ⟨E, m, 0, m, true⟩, rfl, rfl, ?_, hm, fun j o hj ho => ?_⟩
    · rw [show ops.size - i = 0 by omega]
      exact hx
    · rw [Array.getElem?_eq_none (by omega)] at ho; cases ho
  | cons o rest ih =>
    intro i hi E m ws k x hm hwl hx
    have hlt : i < ops.size := by
      rcases Nat.lt_or_ge i ops.size with h | h
      · exact h
      · rw [List.drop_eq_nil_of_le (by simpa using h)] at hi; cases hi
    have hoi' : ops.toList[i]? = some o := by
      have := congrArg (·[0]?) hi
      simpa using this
    have hoi : ops[i]? = some o := by simpa using hoi'
    have hrest : ops.toList.drop (i + 1) = rest := by
      have := congrArg List.tail hi
      simpa using this
    have hisE : isE P ops i = Nat.beq (kindD P o.op) 3 := by
      unfold isE
      rw [List.getD_eq_getElem?_getD, hoi']
      rfl
    -- the rest, and this step ahead of it
    have fin : ∀ (v : Nat) (om : Mem) (tk : Bool) (E' : Nat) (m1 : Mem) (ws1 : List (List Nat)), MOK m1 → m1.wl = [] → (dopsF P N ops.toList rest).fn call E' m1 ws1 k = some x →
        ws1 = (if isE P ops i then [om.wl] else []) ++ ws → (∀ f : Nat → Rec, f (i + 1) = ⟨E', m1, (f (i + 1)).v, (f (i + 1)).o, (f (i + 1)).tk⟩ → StepD P hole N ops o ⟨E, m, v, om, tk⟩ (f (i + 1))) →
        ∃ f : Nat → Rec, (f i).E = E ∧ (f i).m = m ∧ k (f ops.size).E (f ops.size).m (logs P ops f (List.range' i (ops.size - i)) ++ ws) = some x ∧ MOK (f ops.size).m ∧
          ∀ j o, i ≤ j → ops[j]? = some o → StepD P hole N ops o (f j) (f (j + 1)) := by
      intro v om tk E' m1 ws1 hm1 hwl1 hx1 hws hst
      obtain ⟨f, h1, h2, h3, h4, h5⟩ := ih (i + 1) hrest hm1 hwl1 hx1
      refine ⟨fun j => if j = i then ⟨E, m, v, om, tk⟩ else f j, by simp, by simp, ?_, ?_, fun j o' hj ho => ?_⟩
      · simp only [show ops.size ≠ i by omega, if_false]
        rw [range_cons hlt]
        have e : logs P ops (fun j => if j = i then ⟨E, m, v, om, tk⟩ else f j) (i :: List.range' (i + 1) (ops.size - (i + 1))) ++ ws = logs P ops f (List.range' (i + 1) (ops.size - (i + 1))) ++ ws1 := by
          rw [hws]
          have e1 : ∀ l : List Nat, (∀ j ∈ l, j ≠ i) → (l.map fun j => (if j = i then (⟨E, m, v, om, tk⟩ : Rec) else f j).o.wl) = l.map fun j => (f j).o.wl := by
            intro l hl
            apply List.map_congr_left
            intro j hj
            rw [if_neg (hl j hj)]
          have e2 : ∀ j ∈ ((List.range' (i + 1) (ops.size - (i + 1))).filter (isE P ops)).reverse, j ≠ i := by
            intro j hj
            have := (List.mem_range'_1.1 (List.mem_filter.1 (List.mem_reverse.1 hj)).1).1
            omega
          unfold logs
          rw [List.filter_cons]
          cases isE P ops i
          · simp only [Bool.false_eq_true, if_false, List.nil_append]
            rw [e1 _ e2]
          · simp only [if_true, List.reverse_cons, List.map_append, List.append_assoc]
            rw [e1 _ e2]
            simp
        rw [e]
        exact h3
      · simp only [show ops.size ≠ i by omega, if_false]; exact h4
      · by_cases hji : j = i
        · subst hji
          rw [hoi] at ho
          cases ho
          simp only [if_true, show j + 1 ≠ j by omega, if_false]
          exact hst f (by rw [← h1, ← h2])
        · simp only [hji, show j + 1 ≠ i by omega, if_false]
          exact h5 j o' (by omega) ho
    have yes : ∀ {p : PutF}, (∀ t, o.dst = some t → t < N) → (∀ E v t, v < cB → tg (p.fn E v) t = if o.dst = some t then v else tg E t) → (yesD P o.op (opF P N o.op) p (dopsF P N ops.toList rest)).fn call E m ws k = some x →
        (∀ g want, o.guard = some (g, want) → ∃ d, gtmp N ops.toList g = some d ∧ tg E d = wcode want) →
        ∃ f : Nat → Rec, (f i).E = E ∧ (f i).m = m ∧ k (f ops.size).E (f ops.size).m (logs P ops f (List.range' i (ops.size - i)) ++ ws) = some x ∧ MOK (f ops.size).m ∧
          ∀ j o, i ≤ j → ops[j]? = some o → StepD P hole N ops o (f j) (f (j + 1)) := by
      intro p hd hp hx hg
      have mk : ∀ (v : Nat) (om m1 : Mem), OpSem P hole N o E m v om → m1 = (if kindD P o.op = 3 then ⟨om.hp, om.nx, om.ag, om.na, om.wb, []⟩ else om) →
          ∀ f : Nat → Rec, f (i + 1) = ⟨p.fn E v, m1, (f (i + 1)).v, (f (i + 1)).o, (f (i + 1)).tk⟩ → StepD P hole N ops o ⟨E, m, v, om, true⟩ (f (i + 1)) := by
        intro v om m1 hs hm1 f hf
        rw [hf]
        exact ⟨hm, hwl, hd, fun t _ => hp E v t hs.1, fun _ => rfl, fun g want h => let ⟨d, h1, h2⟩ := hg g want h; ⟨d, h1, fun _ => h2, fun h => by cases h⟩, fun _ => hs, fun h => (by cases h), hm1⟩
      unfold yesD at hx
      split at hx
      · rename_i hk
        have hk3 : kindD P o.op = 3 := beq_t hk
        rw [effD_eq] at hx
        obtain ⟨v, om, h1, h2⟩ := opF_sem hc o hm (show (opF P N o.op).fn call E m _ = some x from hx)
        have hom := h2.ok hm
        exact fin v om true (p.fn E v) ⟨om.hp, om.nx, om.ag, om.na, om.wb, []⟩ (om.wl :: ws) ⟨hom.ok.nmb, hom.ok.nod, hom.ok.na, hom.ok.wb⟩ rfl h1 (by simp [hisE, hk]) (mk v om ⟨om.hp, om.nx, om.ag, om.na, om.wb, []⟩ h2 (by simp [hk3]))
      · rename_i hk
        have hk3 : kindD P o.op ≠ 3 := beq_f (by simpa using hk)
        obtain ⟨v, om, h1, h2⟩ := opF_sem hc o hm (show (opF P N o.op).fn call E m _ = some x from hx)
        rw [forceN_eq] at h1
        have hom := h2.ok hm
        exact fin v om true (p.fn E v) om ws hom.ok (by rw [h2.wl hk3, hwl]) h1 (by rw [hisE]; simp [hk]) (mk v om om h2 (by simp [hk3]))
    have no : ∀ {p : PutF}, (∀ t, o.dst = some t → t < N) → (∀ E v t, v < cB → tg (p.fn E v) t = if o.dst = some t then v else tg E t) → (nayD P o.op p (dopsF P N ops.toList rest)).fn call E m ws k = some x →
        (∃ g want, o.guard = some (g, want) ∧ ∃ d, gtmp N ops.toList g = some d ∧ saysNo (tg E d) (wcode want) = true) →
        ∃ f : Nat → Rec, (f i).E = E ∧ (f i).m = m ∧ k (f ops.size).E (f ops.size).m (logs P ops f (List.range' i (ops.size - i)) ++ ws) = some x ∧ MOK (f ops.size).m ∧
          ∀ j o, i ≤ j → ops[j]? = some o → StepD P hole N ops o (f j) (f (j + 1)) := by
      intro p hd hp hx ⟨g, want, hg, d, hd1, hd2⟩
      have mk : ∀ m1 : Mem, m1 = (if kindD P o.op = 3 then ⟨m.hp, m.nx, m.ag, m.na, m.wb, []⟩ else m) →
          ∀ f : Nat → Rec, f (i + 1) = ⟨p.fn E 22, m1, (f (i + 1)).v, (f (i + 1)).o, (f (i + 1)).tk⟩ → StepD P hole N ops o ⟨E, m, 22, m, false⟩ (f (i + 1)) := by
        intro m1 hm1 f hf
        rw [hf]
        exact ⟨hm, hwl, hd, fun t _ => hp E 22 t (lt_cB (by decide +kernel)), fun h => (by rw [hg] at h; cases h), fun g' want' h => by
          rw [hg] at h
          cases h
          exact ⟨d, hd1, fun h => (by cases h), fun _ => hd2⟩, fun h => (by cases h), fun _ => ⟨rfl, rfl⟩, hm1⟩
      have hmm : (⟨m.hp, m.nx, m.ag, m.na, m.wb, []⟩ : Mem) = m := by rw [← hwl]
      unfold nayD at hx
      split at hx
      · rename_i hk
        have hk3 : kindD P o.op = 3 := beq_t hk
        exact fin 22 m false (p.fn E 22) m ([] :: ws) hm hwl (by rw [show (noEffD p (dopsF P N ops.toList rest)).fn call E m ws k = forceN (p.fn E 22) (fun E => (dopsF P N ops.toList rest).fn call E m ([] :: ws) k) from rfl, forceN_eq] at hx; exact hx) (by simp [hisE, hk, hwl]) (mk m (by simp [hk3, hmm]))
      · rename_i hk
        have hk3 : kindD P o.op ≠ 3 := beq_f (by simpa using hk)
        exact fin 22 m false (p.fn E 22) m ws hm hwl (by rw [show (noSeqD p (dopsF P N ops.toList rest)).fn call E m ws k = forceN (p.fn E 22) (fun E => (dopsF P N ops.toList rest).fn call E m ws k) from rfl, forceN_eq] at hx; exact hx) (by rw [hisE]; simp [hk]) (mk m (by simp [hk3]))
    unfold dopsF at hx
    split at hx
    · rename_i hg
      obtain ⟨p, hx, hd, hp⟩ := dstD_ok hx
      exact yes hd hp hx (fun g want h => by rw [hg] at h; cases h)
    · rename_i j want hg
      split at hx
      · rename_i d hd1
        obtain ⟨p, hx, hd, hp⟩ := dstD_ok hx
        have hx : (Bool.casesOn (Nat.beq (pgS E (320 * (d + 1))) (wcode want)) (Bool.casesOn (saysNo (pgS E (320 * (d + 1))) (wcode want)) none ((nayD P o.op p (dopsF P N ops.toList rest)).fn call E m ws k)) ((yesD P o.op (opF P N o.op) p (dopsF P N ops.toList rest)).fn call E m ws k) : R) = some x := hx
        cases hb : Nat.beq (pgS E (320 * (d + 1))) (wcode want)
        · rw [hb] at hx
          obtain ⟨hs, hx⟩ := bc hx
          exact no hd hp hx ⟨j, want, hg, d, hd1, hs⟩
        · rw [hb] at hx
          exact yes hd hp hx (fun g' want' h => by rw [hg] at h; cases h; exact ⟨d, hd1, beq_t hb⟩)
      · exact absurd hx (by simp [badD])

/-! ### the order's masks -/
theorem maskOf_bit (l : List Nat) (o : Oper) (j : Nat) : (maskOf l o).testBit j = true ↔ ∃ e ∈ o.after, Region.binds .any e = true ∧ (e.on = j ∨ (lg e.on l).testBit j = true) := by
  have key : ∀ (es : List Edge) (s : Nat), (es.foldl (fun s e => match Region.binds .any e with
      | true => s ||| 2 ^ e.on ||| lg e.on l
      | false => s) s).testBit j = true ↔ s.testBit j = true ∨ ∃ e ∈ es, Region.binds .any e = true ∧ (e.on = j ∨ (lg e.on l).testBit j = true) := by
    intro es
    induction es with
    | nil => intro s; simp
    | cons e es ih =>
      intro s
      rw [List.foldl_cons, ih]
      cases hb : Region.binds .any e
      · simp only
        constructor
        · rintro (h | ⟨e', h1, h2⟩)
          · exact .inl h
          · exact .inr ⟨e', List.mem_cons_of_mem _ h1, h2⟩
        · rintro (h | ⟨e', h1, h2⟩)
          · exact .inl h
          · rcases List.mem_cons.1 h1 with rfl | h1
            · rw [hb] at h2; exact absurd h2.1 (by simp)
            · exact .inr ⟨e', h1, h2⟩
      · simp only [Nat.testBit_or, Bool.or_eq_true, Nat.testBit_two_pow, decide_eq_true_eq]
        constructor
        · rintro (((h | h) | h) | ⟨e', h1, h2⟩)
          · exact .inl h
          · exact .inr ⟨e, List.mem_cons_self, hb, .inl h⟩
          · exact .inr ⟨e, List.mem_cons_self, hb, .inr h⟩
          · exact .inr ⟨e', List.mem_cons_of_mem _ h1, h2⟩
        · rintro (h | ⟨e', h1, h2⟩)
          · exact .inl (.inl (.inl h))
          · rcases List.mem_cons.1 h1 with rfl | h1
            · rcases h2.2 with h3 | h3
              · exact .inl (.inl (.inr h3))
              · exact .inl (.inr h3)
            · exact .inr ⟨e', h1, h2⟩
  refine (key o.after.toList 0).trans ?_
  simp
theorem masks_ok : ∀ (r : List Oper) (l : List Nat), ∃ t, masks r l = l ++ t ∧ t.length = r.length ∧ ∀ i o, r[i]? = some o → t[i]? = some (maskOf (l ++ t.take i) o) := by
  intro r
  induction r with
  | nil => intro l; exact ⟨[], by simp [masks], rfl, fun i o h => by simp at h⟩
  | cons o r ih =>
    intro l
    obtain ⟨t, h1, h2, h3⟩ := ih (l ++ [maskOf l o])
    refine ⟨maskOf l o :: t, ?_, by simp [h2], fun i o' h => ?_⟩
    · unfold masks
      rw [forceN_eq, h1]
      simp
    · cases i with
      | zero => simp at h; subst h; simp
      | succ i =>
        have := h3 i o' (by simpa using h)
        simpa using this
/-- j stands before i: by an edge, or before one that does -/
theorem anc_edge {ops : List Oper} {i j : Nat} {o : Oper} (ho : ops[i]? = some o) (hback : ∀ e ∈ o.after, Region.binds .any e = true → e.on < i) :
    ancB (masks ops []) j i = true ↔ ∃ e ∈ o.after, Region.binds .any e = true ∧ (e.on = j ∨ ancB (masks ops []) j e.on = true) := by
  obtain ⟨t, h1, h2, h3⟩ := masks_ok ops []
  have hi := h3 i o ho
  simp only [List.nil_append] at h1 hi
  have hlg : lg i (masks ops []) = maskOf (t.take i) o := by rw [lg_eq, h1, List.getD_eq_getElem?_getD, hi]; rfl
  unfold ancB
  rw [hlg, maskOf_bit]
  have hsame : ∀ k, k < i → lg k (t.take i) = lg k (masks ops []) := by
    intro k hk
    rw [lg_eq, lg_eq, h1, List.getD_eq_getElem?_getD, List.getD_eq_getElem?_getD, List.getElem?_take, if_pos hk]
  constructor
  · rintro ⟨e, q1, q2, q3⟩
    rw [hsame e.on (hback e q1 q2)] at q3
    exact ⟨e, q1, q2, q3⟩
  · rintro ⟨e, q1, q2, q3⟩
    rw [← hsame e.on (hback e q1 q2)] at q3
    exact ⟨e, q1, q2, q3⟩

/-! ### what the static conditions say -/
structure OkD (P : Program) (ops : Array Oper) : Prop where
  back : ∀ (i : Nat) (o : Oper), ops[i]? = some o → ∀ e ∈ o.after, Region.binds .any e = true → e.on < i
  kind : ∀ (i : Nat) (o : Oper), ops[i]? = some o → kindD P o.op ≤ 3
  one : ∀ (i j : Nat) (o o' : Oper) (d : Tmp), ops[i]? = some o → ops[j]? = some o' → o.dst = some d → o'.dst = some d → i = j
  look : ∀ (i j : Nat) (o o' : Oper) (d : Tmp), ops[i]? = some o → ops[j]? = some o' → o.dst = some d → d ∈ o'.looksAt ops → i ≠ j ∧ (ancB (masks ops.toList []) i j = true ∨ ancB (masks ops.toList []) j i = true)
  row : ∀ (i j : Nat) (o o' : Oper), ops[i]? = some o → ops[j]? = some o' → kindD P o.op = 3 → j < i → 2 ≤ kindD P o'.op → ancB (masks ops.toList []) j i = true
  addr : ∀ (i : Nat) (o : Oper), ops[i]? = some o → kindD P o.op = 1 → ∃ t, addrD o.op = .tmp t ∧ ∀ (j : Nat) (o' : Oper), ops[j]? = some o' → i ≤ j → o'.dst ≠ some t
theorem okD_ok {ops : Array Oper} (h : okD P ops.toList = true) : OkD P ops := by
  unfold okD at h
  simp only [Bool.and_eq_true] at h
  obtain ⟨⟨⟨⟨⟨h1, h2⟩, h3⟩, h4⟩, h5⟩, h6⟩ := h
  have hin : ∀ {i o}, ops[i]? = some o → i ∈ List.range ops.toList.length ∧ ops.toList.getD i default = o := by
    intro i o ho
    have hlt := (Array.getElem?_eq_some_iff.1 ho).1
    refine ⟨by simpa using hlt, ?_⟩
    rw [List.getD_eq_getElem?_getD]
    simp [ho]
  refine ⟨fun i o ho e he hb => ?_, fun i o ho => ?_, fun i j o o' d ho ho' hd hd' => ?_, fun i j o o' d ho ho' hd hl => ?_, fun i j o o' ho ho' hk hji hk' => ?_, fun i o ho hk => ?_⟩
  · obtain ⟨q1, q2⟩ := hin ho
    have := List.all_eq_true.1 h1 i q1
    rw [q2] at this
    have := List.all_eq_true.1 this e (by simpa using he)
    rw [hb] at this
    simpa using this
  · obtain ⟨q1, q2⟩ := hin ho
    have := List.all_eq_true.1 h2 i q1
    rw [q2] at this
    exact ble_t this
  · obtain ⟨q1, q2⟩ := hin ho
    obtain ⟨r1, r2⟩ := hin ho'
    have := List.all_eq_true.1 h3 i q1
    rw [q2, hd] at this
    have := List.all_eq_true.1 this j r1
    rw [r2, hd'] at this
    simp only [beq_self_eq_true, Bool.not_true, Bool.false_and, Bool.or_false] at this
    exact beq_t this
  · obtain ⟨q1, q2⟩ := hin ho
    obtain ⟨r1, r2⟩ := hin ho'
    have hne : i ≠ j := by
      rintro rfl
      rw [ho] at ho'
      cases ho'
      have := List.all_eq_true.1 h4 i q1
      rw [q2, hd] at this
      simp only [tmpsD, Array.toArray_toList, Bool.not_eq_true', List.contains_eq_mem, decide_eq_false_iff_not] at this
      exact this hl
    refine ⟨hne, ?_⟩
    have := List.all_eq_true.1 h3 i q1
    rw [q2, hd] at this
    have := List.all_eq_true.1 this j r1
    rw [r2] at this
    have hb : Nat.beq i j = false := by
      cases h : Nat.beq i j
      · rfl
      · exact absurd (beq_t h) hne
    rw [hb, Bool.false_or, Bool.and_eq_true] at this
    have := this.2
    have hc : (tmpsD ops.toList o').contains d = true := by
      simp only [tmpsD, Array.toArray_toList, List.contains_eq_mem, decide_eq_true_eq]
      exact hl
    rw [hc] at this
    simpa [ordB] using this
  · obtain ⟨q1, q2⟩ := hin ho
    obtain ⟨r1, r2⟩ := hin ho'
    have := List.all_eq_true.1 h5 i q1
    rw [q2, hk, show (!Nat.beq 3 3) = false from rfl, Bool.false_or] at this
    have := List.all_eq_true.1 this j r1
    rw [r2] at this
    have e1 : Nat.blt j i = true := Nat.ble_eq_true_of_le hji
    have e2 : Nat.ble 2 (kindD P o'.op) = true := Nat.ble_eq_true_of_le hk'
    rw [e1, e2] at this
    simpa using this
  · obtain ⟨q1, q2⟩ := hin ho
    have := List.all_eq_true.1 h6 i q1
    rw [q2, hk] at this
    simp only [show (!Nat.beq 1 1) = false from rfl, Bool.false_or] at this
    split at this
    · rename_i t ht
      refine ⟨t, ht, fun j o' ho' hij he => ?_⟩
      obtain ⟨r1, r2⟩ := hin ho'
      have := List.all_eq_true.1 this j r1
      rw [r2, he] at this
      have e1 : Nat.blt j i = false := by
        cases h : Nat.blt j i
        · rfl
        · have := Nat.le_of_ble_eq_true h; omega
      rw [e1] at this
      simp at this
    · cases this
end
end Go.Proofs.YgvaqwGreat.Ev
