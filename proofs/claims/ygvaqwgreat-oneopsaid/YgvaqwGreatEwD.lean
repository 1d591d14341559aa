/- Regions whole; code. -/
import Derived.Test.YgvaqwGreatEwC
set_option exponentiation.threshold 400
namespace Go.Proofs.YgvaqwGreat.Ev
open Go
section
variable {P : Program} {hole N : Nat}

/-! ### what is looked at behind the run -/
theorem isIn_ok {x : Nat} : ∀ {l : List Nat}, isIn x l = false → x ∉ l := by
  intro l
  induction l with
  | nil => intro _ h; cases h
  | cons y r ih =>
    intro h hx
    unfold isIn at h
    cases hb : Nat.beq y x
    · rw [hb] at h
      rcases List.mem_cons.1 hx with rfl | hx
      · exact absurd rfl (beq_f hb)
      · exact ih h hx
    · rw [hb] at h; cases h
theorem notIn_map {nm : Nat} {p : Nat → Bool} {q : Nat → List Nat} : ∀ {l : List Nat}, notIn nm (l.map p) (l.map q) = true → ∀ e ∈ l, p e = true → nm ∉ q e := by
  intro l
  induction l with
  | nil => intro _ e he; cases he
  | cons y r ih =>
    intro h e he hp
    simp only [List.map_cons, notIn, Bool.and_eq_true] at h
    rcases List.mem_cons.1 he with rfl | he
    · rw [hp] at h
      exact isIn_ok (by simpa using h.1)
    · exact ih h.2 e he hp
theorem lookF_ok {L : List Oper} {ms : List Nat} {E wb : Nat} {ws : List (List Nat)} {r : R} {x : Nat × Mem} : ∀ {idx : List Nat}, (lookF P N L ms idx).fn E wb ws r = some x →
    r = some x ∧ ∀ i ∈ idx, kindD P (L.getD i default).op = 1 → memRef ((sel N (addrD (L.getD i default).op)).fn E) = true →
      nmOf ((sel N (addrD (L.getD i default).op)).fn E) < wb ∧ notIn (nmOf ((sel N (addrD (L.getD i default).op)).fn E)) ((effs P L).map fun e => !ordB ms i e) ws = true := by
  intro idx
  induction idx with
  | nil => intro h; exact ⟨h, fun i hi => by cases hi⟩
  | cons i idx ih =>
    intro h
    unfold lookF at h
    split at h
    · rename_i hk
      simp only [look1] at h
      cases hm : memRef ((sel N (addrD (L.getD i default).op)).fn E)
      · rw [hm] at h
        obtain ⟨h1, h2⟩ := ih h
        refine ⟨h1, fun j hj hkj hmj => ?_⟩
        rcases List.mem_cons.1 hj with rfl | hj
        · rw [hm] at hmj; cases hmj
        · exact h2 j hj hkj hmj
      · rw [hm] at h
        obtain ⟨q1, h⟩ := bc h
        obtain ⟨q2, h⟩ := bc h
        obtain ⟨h1, h2⟩ := ih h
        refine ⟨h1, fun j hj hkj hmj => ?_⟩
        rcases List.mem_cons.1 hj with rfl | hj
        · exact ⟨ble_t q1, q2⟩
        · exact h2 j hj hkj hmj
    · rename_i hk
      obtain ⟨h1, h2⟩ := ih h
      refine ⟨h1, fun j hj hkj hmj => ?_⟩
      rcases List.mem_cons.1 hj with rfl | hj
      · rw [hkj] at hk; cases hk
      · exact h2 j hj hkj hmj

theorem joinW_eq (ws : List (List Nat)) (l : List Nat) : joinW ws l = ws.flatten ++ l := by
  induction ws with
  | nil => rfl
  | cons w ws ih => show w ++ joinW ws l = _; rw [ih]; simp

def RegOK (P : Program) (hole N : Nat) (id : Nat) (ops : Array Oper) (draw : Bool) (call : CallF) (F : RegF) : Prop :=
  ∀ {E : Nat} {m : Mem} {k : Nat → Mem → R} {x : Nat × Mem}, MOK m → F.fn call E m k = some x → ∃ E' m', k E' m' = some x ∧ MStep m m' ∧
    ∀ (T : List Nat) (s : St) (a : Act), Suf m'.ag T → ERel P hole s T N E a → Rel P hole s m → Fresh s.sg m.nx m'.nx → (Code.region id ops draw).wp P (Post P hole N .normal T s m m' E' a) a s.w

theorem draw_ok {call : CallF} (hc : CallOK P hole call) (hmo : P.follows .mixedOrders = true) (id : Nat) (ops : Array Oper) (hokd : okD P ops.toList = true) :
    RegOK P hole N id ops true call (drawF (dopsF P N ops.toList ops.toList) (lookF P N ops.toList (masks ops.toList []) (List.range ops.toList.length))) := by
  intro E m k x hm hx
  have hok := okD_ok hokd
  rw [drawF_eq] at hx
  obtain ⟨f, h1, h2, h3, h4, h5⟩ := dopsF_ok hc ops ops.toList 0 (by simp) (m := ⟨m.hp, m.nx, m.ag, m.na, m.nx, []⟩) ⟨hm.nmb, hm.nod, hm.na, Nat.le_refl _⟩ rfl hx
  obtain ⟨hx', hl⟩ := lookF_ok h3
  have h : Tr P hole N ops f := fun j o ho => h5 j o (Nat.zero_le j) ho
  have hwb : (f 0).m.wb = (f 0).m.nx := by rw [h2]
  have hhp : (f 0).m.hp = m.hp := by rw [h2]
  have hnx : (f 0).m.nx = m.nx := by rw [h2]
  have hin : ∀ {i : Nat} {o : Oper}, ops[i]? = some o → i ∈ List.range ops.toList.length ∧ ops.toList.getD i default = o := by
    intro i o ho
    have hlt := (Array.getElem?_eq_some_iff.1 ho).1
    refine ⟨by simpa using hlt, ?_⟩
    rw [List.getD_eq_getElem?_getD]
    simp [ho]
  have hrng : (List.range' 0 (ops.size - 0)) = List.range ops.toList.length := by rw [List.range_eq_range']; simp
  have hws : logs P ops f (List.range' 0 (ops.size - 0)) ++ [] = (effs P ops.toList).map fun e => (f e).o.wl := by
    rw [List.append_nil, hrng]
    rfl
  rw [hws] at hx' hl
  have hmemE : ∀ {e : Nat} {oe : Oper}, ops[e]? = some oe → kindD P oe.op = 3 → e ∈ effs P ops.toList := by
    intro e oe hoe hke
    obtain ⟨q1, q2⟩ := hin hoe
    unfold effs
    rw [List.mem_reverse, List.mem_filter]
    exact ⟨q1, by rw [q2, hke]; rfl⟩
  have hlk : LookOK P N ops f := by
    intro i o ho hk hmr
    obtain ⟨q1, q2⟩ := hin ho
    have := hl i q1 (by rw [q2]; exact hk) (by rw [q2]; exact hmr)
    rw [q2] at this
    refine ⟨by rw [hnx]; exact this.1, fun e oe hoe hke n1 n2 => ?_⟩
    exact notIn_map this.2 e (hmemE hoe hke) (by simp [ordB, n1, n2])
  have hmono := tr_mono h (Nat.zero_le ops.size) (Nat.le_refl _)
  refine ⟨_, _, hx', ⟨⟨h4.nmb, h4.nod, h4.na, ?_⟩, ?_, ?_, rfl, ?_⟩, fun T s a hT hE hR hf => ?_⟩
  · show m.wb ≤ (f ops.size).m.nx
    have := hm.wb
    omega
  · show m.nx ≤ (f ops.size).m.nx
    omega
  · show Suf m.ag (f ops.size).m.ag
    have := hmono.2.1
    rw [h2] at this
    exact this
  · refine ⟨_, joinW_eq _ _, fun b hb hnot => ?_⟩
    show b ∈ m.hp ↔ b ∈ (f ops.size).m.hp
    rw [← hhp]
    refine mem_pres h hwb b (by have := hm.wb; omega) (Nat.zero_le _) (Nat.le_refl _) fun j o _ _ hj hk hin' => hnot ?_
    rw [List.mem_flatten]
    exact ⟨_, List.mem_map.2 ⟨j, hmemE hj hk, rfl⟩, hin'⟩
  · refine wp_region_any hmo ?_
    have hT : Suf (f ops.size).m.ag T := hT
    have hf : Fresh s.sg m.nx (f ops.size).m.nx := hf
    have hfalse : ∀ j, (Array.replicate ops.size false).getD j false = false := by
      intro j
      rw [Array.getD_eq_getD_getElem?, Array.getElem?_replicate]
      split <;> rfl
    have hsd : ∀ b, SD P ops f 0 (Array.replicate ops.size false) b ↔ b ∈ m.hp := by
      intro b
      unfold SD
      rw [hhp]
      exact ⟨fun q => q.elim (fun z => z) fun ⟨j, _, q, _⟩ => (by rw [hfalse] at q; cases q), .inl⟩
    refine draw_all h hok hwb hlk hT (s0 := s) (a0 := a) ?_ ops.size (Array.replicate ops.size false) a s.drew ⟨by simp, fun j o _ hl => (by rw [hfalse] at hl; cases hl), hE.size, rfl, fun t ht => ?_, ⟨0, Nat.zero_le _, fun j o _ _ => ?_, fun j o _ _ hj => (by omega), ?_, ?_⟩, fun j o hj _ => ?_⟩ ?_
    · intro listed a' s' I hall
      obtain ⟨c, M⟩ := I.mem
      have hsub : ∀ b, b ∈ (f ops.size).m.hp → SD P ops f c listed b := by
        intro b hb
        rcases (hp_between h b M.le (Nat.le_refl _) fun j o q1 q2 hj hk => by
          have := (M.eff j o hj hk).1 (hall j q2)
          omega).1 hb with q | ⟨j, q1, q2, q3⟩
        · exact .inl q
        · exact .inr ⟨j, q1, hall j q2, q3⟩
      refine ⟨rfl, s', rfl, ⟨I.tsz, fun t ht => ?_⟩, I.df, M.rel.sub hsub, ?_⟩
      · obtain ⟨v, q1, q2, q3⟩ := I.tmp t ht
        refine ⟨v, q1, ?_⟩
        by_cases hw : ∃ (j : Nat) (o : Oper), ops[j]? = some o ∧ o.dst = some t
        · obtain ⟨j, o, hj, hd⟩ := hw
          rw [E_after h hok hj hd (lt_at hj) (Nat.le_refl _)]
          exact q2 j o hj (hall j (lt_at hj)) hd
        · rw [E_keep h ht (Nat.zero_le _) (Nat.le_refl _) fun j o _ _ hj hd => hw ⟨j, o, hj, hd⟩]
          exact q3 fun j o hj hd => absurd ⟨j, o, hj, hd⟩ hw
      · have := M.evo.congr (Q := (· ∈ m.hp)) (Q' := (· ∈ (f ops.size).m.hp)) (fun b => by rw [hhp]) hsub
        rw [hnx] at this
        exact this
    · obtain ⟨v, q1, q2⟩ := hE.val t ht
      exact ⟨v, q1, fun j o _ hl => (by rw [hfalse] at hl; cases hl), fun _ => by rw [h1]; exact q2.le (Le.drew s)⟩
    · rw [hfalse]; simp
    · exact RelS.congr hR.drew hsd
    · exact ((Evo.drew s hR (n := m.nx)).wide (lo' := (f 0).m.nx) (hi' := (f ops.size).m.nx) (by omega) (by omega)).congr (fun b => by rw [hhp]) fun b hb => (hsd b).1 hb
    · refine hf.mono ?_ ?_
      · rw [← hnx]; exact (tr_mono h (Nat.zero_le j) (by have := lt_at hj; omega)).1
      · rw [← (tr_step h hj).2.2.1]; exact (tr_mono h (show j + 1 ≤ ops.size by have := lt_at hj; omega) (Nat.le_refl _)).1
    · unfold unl
      have := List.length_filter_le (fun j => !(Array.replicate ops.size false).getD j false) (List.range ops.size)
      simpa using this

theorem regF_ok {call : CallF} (hc : CallOK P hole call) (hmo : P.follows .mixedOrders = true) (id : Nat) (ops : Array Oper) (draw : Bool) : RegOK P hole N id ops draw call (regF P N ops.toList draw) := by
  intro E m k x hm hx
  cases draw
  · obtain ⟨E', m', h1, h2, h3⟩ := opsF_ok hc ops ops.toList 0 (by simp) hm hx
    refine ⟨E', m', h1, h2, fun T s a hT hE hR hf => wp_region ?_⟩
    have := h3 T s a hT hE hR hf
    rw [List.range_eq_range']
    exact this
  · unfold regF at hx
    simp only at hx
    split at hx
    · rename_i hk
      exact draw_ok hc hmo id ops hk hm hx
    · exact absurd hx (by simp [badR])

/-! ### code -/
def CodeOK (P : Program) (hole N : Nat) (c : Code) (F : CodeF) (call : CallF) : Prop :=
  ∀ {E : Nat} {m : Mem} {k : KX} {x : Nat × Mem}, MOK m → F.fn call E m k = some x → ∃ ex E' m', k ex E' m' = some x ∧ MStep m m' ∧
    ∀ (T : List Nat) (s : St) (a : Act), Suf m'.ag T → ERel P hole s T N E a → Rel P hole s m → Fresh s.sg m.nx m'.nx → c.wp P (Post P hole N ex T s m m' E' a) a s.w

/-- a loop by its rounds -/
def Rounds (P : Program) (c : Code) (Q : Exit → Act → World → Prop) : Nat → Act → World → Prop
  | 0 => fun _ _ => False
  | n + 1 => fun a w => c.wp P (Exit.then (Rounds P c Q n) Q) a w
theorem least {p : Nat → Prop} (h : ∃ n, p n) : ∃ n, p n ∧ ∀ k, p k → n ≤ k := by
  obtain ⟨n, hn⟩ := h
  induction n using Nat.strongRecOn with
  | ind n ih =>
    by_cases hk : ∃ k, k < n ∧ p k
    · obtain ⟨k, h1, h2⟩ := hk
      exact ih k h1 h2
    · exact ⟨n, hn, fun k hp => by
        rcases Nat.lt_or_ge k n with h | h
        · exact absurd ⟨k, h, hp⟩ hk
        · exact h⟩
theorem wp_rounds {c : Code} {Q : Exit → Act → World → Prop} {n : Nat} {a : Act} {w : World} (h : Rounds P c Q n a w) : (Code.loop c).wp P Q a w := by
  have hμ : ∃ μ : Act → World → Nat, ∀ a w, (∃ n, Rounds P c Q n a w) → Rounds P c Q (μ a w) a w ∧ ∀ k, Rounds P c Q k a w → μ a w ≤ k := by
    have : ∀ q : Act × World, ∃ n, (∃ n, Rounds P c Q n q.1 q.2) → Rounds P c Q n q.1 q.2 ∧ ∀ k, Rounds P c Q k q.1 q.2 → n ≤ k := by
      intro q
      by_cases hq : ∃ n, Rounds P c Q n q.1 q.2
      · obtain ⟨n, h1⟩ := least hq
        exact ⟨n, fun _ => h1⟩
      · exact ⟨0, fun h => absurd h hq⟩
    exact ⟨fun a w => Classical.choose (this (a, w)), fun a w hq => Classical.choose_spec (this (a, w)) hq⟩
  obtain ⟨μ, hμ⟩ := hμ
  refine wp_loop (fun a w => ∃ n, Rounds P c Q n a w) μ ⟨n, h⟩ fun a w hI => ?_
  obtain ⟨h1, _⟩ := hμ a w hI
  cases hn : μ a w with
  | zero => rw [hn] at h1; exact h1.elim
  | succ n =>
    rw [hn] at h1
    refine wp_mono (Q := Exit.then (Rounds P c Q n) Q) h1 fun e a' w' hq => ?_
    cases e
    case normal => exact ⟨⟨n, hq⟩, Nat.lt_succ_of_le ((hμ a' w' ⟨n, hq⟩).2 n hq)⟩
    all_goals exact hq
theorem Rounds.mono {c : Code} {Q Q' : Exit → Act → World → Prop} (hq : ∀ e a w, Q e a w → Q' e a w) : ∀ {n : Nat} {a : Act} {w : World}, Rounds P c Q n a w → Rounds P c Q' n a w := by
  intro n
  induction n with
  | zero => intro a w h; exact h
  | succ n ih =>
    intro a w h
    refine wp_mono (Q := Exit.then (Rounds P c Q n) Q) h fun e a' w' hh => ?_
    cases e
    case normal => exact ih hh
    all_goals exact hq _ _ _ hh

theorem codeF_ok {call : CallF} (hc : CallOK P hole call) (hmo : P.follows .mixedOrders = true) (c : Code) : CodeOK P hole N c (codeF P N c) call := by
  induction c with
  | skip => exact fun {E m k x} hm hx => ⟨.normal, E, m, hx, MStep.refl hm, fun T s a hT hE hR hf => wp_skip ⟨rfl, s, rfl, hE, rfl, hR, Evo.same hR fun _ h => h⟩⟩
  | exit id => exact fun {E m k x} hm hx => ⟨.exit id, E, m, hx, MStep.refl hm, fun T s a hT hE hR hf => wp_exit ⟨rfl, s, rfl, hE, rfl, hR, Evo.same hR fun _ h => h⟩⟩
  | ret => exact fun {E m k x} hm hx => ⟨.ret, E, m, hx, MStep.refl hm, fun T s a hT hE hR hf => wp_ret ⟨rfl, s, rfl, hE, rfl, hR, Evo.same hR fun _ h => h⟩⟩
  | region id ops draw =>
    intro E m k x hm hx
    obtain ⟨E', m', h1, h2, h3⟩ := regF_ok (N := N) hc hmo id ops draw hm (show (regF P N ops.toList draw).fn call E m (fun E m => k .normal E m) = some x from hx)
    exact ⟨.normal, E', m', h1, h2, h3⟩
  | seq c d ihc ihd =>
    intro E m k x hm hx
    obtain ⟨ex, E1, m1, h1, h2, h3⟩ := ihc hm (show (codeF P N c).fn call E m _ = some x from hx)
    cases ex
    case normal =>
      obtain ⟨ex, E', m', g1, g2, g3⟩ := ihd h2.ok (show (codeF P N d).fn call E1 m1 k = some x from h1)
      refine ⟨ex, E', m', g1, h2.trans g2, fun T s a hT hE hR hf => wp_seq (wp_mono (h3 T s a (g2.ag.trans hT) hE hR (hf.mono (Nat.le_refl _) g2.nx)) fun e a' w' hq => ?_)⟩
      obtain ⟨rfl, s1, q1, q2, q3, q4, q5⟩ := hq
      show d.wp P _ a' w'
      rw [← q1]
      exact wp_mono (g3 T s1 a' hT q2 q4 (hf.evo q5 h2.nx)) fun e a'' w'' hq => Post.trans q5 q3 h2.nx g2.nx hq
    all_goals
      refine ⟨_, E1, m1, h1, h2, fun T s a hT hE hR hf => wp_seq (wp_mono (h3 T s a hT hE hR hf) fun e a' w' hq => ?_)⟩
      obtain ⟨rfl, hq⟩ := hq
      exact ⟨rfl, hq⟩
  | cond c x y ihx ihy =>
    intro E m k z hm hx
    have hx : (Bool.casesOn (Nat.beq ((sel N c).fn E) 41) (Bool.casesOn (Nat.beq ((sel N c).fn E) 9) none ((codeF P N y).fn call E m k)) ((codeF P N x).fn call E m k) : R) = some z := hx
    cases hb : Nat.beq ((sel N c).fn E) 41
    · rw [hb] at hx
      obtain ⟨hb9, hx⟩ := bc hx
      obtain ⟨ex, E', m', h1, h2, h3⟩ := ihy hm hx
      refine ⟨ex, E', m', h1, h2, fun T s a hT hE hR hf => wp_cond_false ?_ (h3 T s a hT hE hR hf)⟩
      have hv := sel_ok c hE
      rw [beq_t hb9] at hv
      obtain ⟨b, e1, e2⟩ := VT.bool hv rfl
      cases b
      · exact e1
      · exact absurd e2 (by decide)
    · rw [hb] at hx
      obtain ⟨ex, E', m', h1, h2, h3⟩ := ihx hm hx
      refine ⟨ex, E', m', h1, h2, fun T s a hT hE hR hf => wp_cond_true ?_ (h3 T s a hT hE hR hf)⟩
      have hv := sel_ok c hE
      rw [beq_t hb] at hv
      obtain ⟨b, e1, e2⟩ := VT.bool hv rfl
      cases b
      · exact absurd e2 (by decide)
      · exact e1
  | block id c ih =>
    intro E m k x hm hx
    obtain ⟨ex, E', m', h1, h2, h3⟩ := ih hm (show (codeF P N c).fn call E m (inBlk id k) = some x from hx)
    cases ex
    case exit i =>
      have h1 : (Bool.casesOn (Nat.beq i id) (k (.exit i) E' m') (k .normal E' m') : R) = some x := h1
      cases hb : Nat.beq i id
      · rw [hb] at h1
        refine ⟨.exit i, E', m', h1, h2, fun T s a hT hE hR hf => wp_block (wp_mono (h3 T s a hT hE hR hf) fun e a' w' hq => ?_)⟩
        obtain ⟨rfl, hq⟩ := hq
        show if i = id then _ else _
        rw [if_neg (beq_f hb)]
        exact ⟨rfl, hq⟩
      · rw [hb] at h1
        refine ⟨.normal, E', m', h1, h2, fun T s a hT hE hR hf => wp_block (wp_mono (h3 T s a hT hE hR hf) fun e a' w' hq => ?_)⟩
        obtain ⟨rfl, hq⟩ := hq
        show if i = id then _ else _
        rw [if_pos (beq_t hb)]
        exact ⟨rfl, hq⟩
    all_goals
      refine ⟨_, E', m', h1, h2, fun T s a hT hE hR hf => wp_block (wp_mono (h3 T s a hT hE hR hf) fun e a' w' hq => ?_)⟩
      obtain ⟨rfl, hq⟩ := hq
      exact ⟨rfl, hq⟩
  | loop c ih =>
    intro E m k x hm hx
    have key : ∀ (n : Nat) {E : Nat} {m : Mem}, MOK m → (Nat.rec (motive := fun _ => Nat → Mem → R) (fun _ _ => none) (fun _ ih E m => (codeF P N c).fn call E m (thenX k ih)) n E m : R) = some x →
        ∃ ex E' m', k ex E' m' = some x ∧ MStep m m' ∧ ∀ (T : List Nat) (s : St) (a : Act), Suf m'.ag T → ERel P hole s T N E a → Rel P hole s m → Fresh s.sg m.nx m'.nx → Rounds P c (Post P hole N ex T s m m' E' a) n a s.w := by
      intro n
      induction n with
      | zero => intro E m _ h; exact absurd h (by simp)
      | succ n ihn =>
        intro E m hm h
        obtain ⟨ex, E1, m1, h1, h2, h3⟩ := ih hm (show (codeF P N c).fn call E m (thenX k _) = some x from h)
        cases ex
        case normal =>
          obtain ⟨ex, E', m', g1, g2, g3⟩ := ihn h2.ok h1
          refine ⟨ex, E', m', g1, h2.trans g2, fun T s a hT hE hR hf => wp_mono (h3 T s a (g2.ag.trans hT) hE hR (hf.mono (Nat.le_refl _) g2.nx)) fun e a' w' hq => ?_⟩
          obtain ⟨rfl, s1, q1, q2, q3, q4, q5⟩ := hq
          show Rounds P c _ n a' w'
          rw [← q1]
          exact Rounds.mono (fun e a'' w'' hq => Post.trans q5 q3 h2.nx g2.nx hq) (g3 T s1 a' hT q2 q4 (hf.evo q5 h2.nx))
        all_goals
          refine ⟨_, E1, m1, h1, h2, fun T s a hT hE hR hf => wp_mono (h3 T s a hT hE hR hf) fun e a' w' hq => ?_⟩
          obtain ⟨rfl, hq⟩ := hq
          exact ⟨rfl, hq⟩
    obtain ⟨ex, E', m', h1, h2, h3⟩ := key hfuel hm hx
    exact ⟨ex, E', m', h1, h2, fun T s a hT hE hR hf => wp_rounds (h3 T s a hT hE hR hf)⟩
  | rangeFunc => exact fun {E m k x} hm hx => absurd hx (by simp [codeF])
  | scope => exact fun {E m k x} hm hx => absurd hx (by simp [codeF])
  | label => exact fun {E m k x} hm hx => absurd hx (by simp [codeF])
  | goto => exact fun {E m k x} hm hx => absurd hx (by simp [codeF])
  | refuse => exact fun {E m k x} hm hx => absurd hx (by simp [codeF])
end
end Go.Proofs.YgvaqwGreat.Ev
