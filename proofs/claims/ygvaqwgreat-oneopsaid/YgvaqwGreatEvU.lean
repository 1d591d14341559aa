/- What one operation does, told for every kind; calls; regions that are run by the index. -/
import Derived.Test.YgvaqwGreatEvT
set_option exponentiation.threshold 400
namespace Go.Proofs.YgvaqwGreat.Ev
open Go
section
variable {P : Program} {hole N : Nat}

/-- the operands' temporaries alone -/
def EnvO (P : Program) (hole N : Nat) (o : Oper) (s : St) (T : List Nat) (E : Nat) (a : Act) : Prop :=
  a.tmps.size = N ∧ ∀ t, Operand.tmp t ∈ o.op.operands → t < N → ∃ v, a.tmps[t]? = some v ∧ VT P hole s T (tg E t) v
theorem mask_ex (p : Nat → Prop) (E : Nat) : ∀ n, ∃ E', (∀ t, n ≤ t → tg E' t = 0) ∧ ∀ t, t < n → (p t → tg E' t = tg E t) ∧ (¬ p t → tg E' t = 0) := by
  intro n
  induction n with
  | zero => exact ⟨0, fun t _ => by unfold tg; rw [pg_eq]; simp, fun t ht => by omega⟩
  | succ n ih =>
    obtain ⟨E', h1, h2⟩ := ih
    by_cases hp : p n
    · refine ⟨jmp E' (320 * (n + 1)) 0 (tg E n), fun t ht => by rw [tg_jmp (tg_lt E n), if_neg (by omega)]; exact h1 t (by omega), fun t ht => ?_⟩
      rw [tg_jmp (tg_lt E n)]
      by_cases htn : t = n
      · subst htn
        rw [if_pos rfl]
        exact ⟨fun _ => rfl, fun h => absurd hp h⟩
      · rw [if_neg htn]
        exact h2 t (by omega)
    · refine ⟨E', fun t ht => h1 t (by omega), fun t ht => ?_⟩
      by_cases htn : t = n
      · subst htn
        exact ⟨fun h => absurd h hp, fun _ => h1 t (by omega)⟩
      · exact h2 t (by omega)
theorem sel_tmp {t E : Nat} (h : t < N) : (sel N (.tmp t)).fn E = tg E t := by
  unfold sel
  have : Nat.blt t N = true := Nat.ble_eq_true_of_le h
  simp only [this, forceN_eq]
  rfl
theorem mask_ok (o : Oper) (E : Nat) : ∃ E', (∀ z ∈ o.op.operands, (sel N z).fn E = (sel N z).fn E') ∧ ∀ s T a, EnvO P hole N o s T E a → Env P hole N s T E' a := by
  obtain ⟨E', _, h⟩ := mask_ex (fun t => Operand.tmp t ∈ o.op.operands) E N
  refine ⟨E', fun z hz => ?_, fun s T a ha z => sel_ok z ⟨ha.1, fun t ht => ?_⟩⟩
  · cases z with
    | tmp t =>
      by_cases ht : t < N
      · rw [sel_tmp ht, sel_tmp ht, (h t ht).1 hz]
      · have : Nat.blt t N = false := by
          cases hb : Nat.blt t N
          · rfl
          · exact absurd (Nat.le_of_ble_eq_true hb) ht
        unfold sel
        simp only [this]
        rfl
    | const v => unfold sel; simp only [forceN_eq]; rfl
    | global g => rfl
    | func f => rfl
  · by_cases hp : Operand.tmp t ∈ o.op.operands
    · obtain ⟨v, h1, h2⟩ := ha.2 t hp ht
      exact ⟨v, h1, by rw [(h t ht).1 hp]; exact h2⟩
    · refine ⟨a.tmps[t]'(by rw [ha.1]; exact ht), Array.getElem?_eq_getElem _, VT.top ?_⟩
      rw [(h t ht).2 hp]

/-- the model's operation, run: what comes of it -/
def Does (P : Program) (o : Oper) (a : Act) (w : World) (Rr : Value → World → Prop) : Prop :=
  ∀ (K : Act → World → Prop) (Q : Exit → Act → World → Prop), (∀ v w', Rr v w' → K (a.put o.dst v) w') → o.wp P a w K Q
theorem Runs.does {o : Oper} {f : Act → Sem Value} (h : Runs P o f) {a : Act} {w w' : World} {v : Value} (hr : (f a).run P w = .ok v w') : Does P o a w (fun u w'' => u = v ∧ w'' = w') :=
  fun K Q hK => h a w v w' hr K Q (hK v w' ⟨rfl, rfl⟩)
theorem Does.mono {o : Oper} {a : Act} {w : World} {R1 R2 : Value → World → Prop} (h : Does P o a w R1) (hR : ∀ v w', R1 v w' → R2 v w') : Does P o a w R2 := fun K Q hK => h K Q fun v w' hr => hK v w' (hR v w' hr)

/-- calls that the evaluator may make -/
def Enters (P : Program) (g : Nat) : Prop := ∀ (vs : Array Value) (w : World), (callFunc g vs).run P w = .ok (.enter g vs) w
def After (P : Program) (hole : Nat) (T : List Nat) (s : St) (m m' : Mem) (v : Nat) (u : Value) (w : World) : Prop :=
  ∃ s' : St, s'.w = w ∧ Rel P hole s' m' ∧ VT P hole s' T v u ∧ Evo s s' (· ∈ m.hp) (· ∈ m'.hp) m.nx m'.nx
def CallOK (P : Program) (hole : Nat) (call : CallF) : Prop :=
  ∀ g args m v m', call g args m = some (v, m') → MOK m → (∀ e ∈ args, e < cB) → MStep m m' ∧ v < cB ∧ Enters P g ∧
    ∀ (T : List Nat) (s : St) (vs : Array Value), Suf m'.ag T → Rel P hole s m → Fresh s.sg m.nx m'.nx → vs.size = args.length → (∀ (i e : Nat), args[i]? = some e → ∃ u, vs[i]? = some u ∧ VT P hole s T e u) →
      Calls P g vs s.w (fun e w => ∃ u, e = .returned u ∧ After P hole T s m m' v u w)

def Sem0 (P : Program) (hole N : Nat) (o : Oper) (E : Nat) (m : Mem) (v : Nat) (m' : Mem) : Prop :=
  PStep m m' ∧ ∀ (T : List Nat) (s : St) (a : Act), Suf m'.ag T → EnvO P hole N o s T E a → ∃ v', Does P o a s.w (fun u w => u = v' ∧ w = s.w) ∧ VT P hole s T v v'
def Sem1 (P : Program) (hole N : Nat) (o : Oper) (E : Nat) (m : Mem) (v : Nat) (m' : Mem) : Prop :=
  RStep m m' ∧ ∃ B : Option Blk, (∀ b, B = some b → b ∈ m.hp ∧ b.nm = nmOf ((sel N (addrD o.op)).fn E) ∧ memRef ((sel N (addrD o.op)).fn E) = true) ∧ addrD o.op ∈ o.op.operands ∧
    ∀ (T : List Nat) (s : St) (S : Blk → Prop) (a : Act), Suf m'.ag T → RelS P hole s S → (∀ b, B = some b → S b) → EnvO P hole N o s T E a → ∃ v', Does P o a s.w (fun u w => u = v' ∧ w = s.w) ∧ VT P hole s T v v'
def Sem2 (P : Program) (hole N : Nat) (o : Oper) (E : Nat) (m : Mem) (v : Nat) (m' : Mem) : Prop :=
  ∃ b : Blk, MStep m m' ∧ m'.hp = b :: m.hp ∧ b.nm = m.nx ∧ m'.nx = m.nx + 1 ∧ m'.ag = m.ag ∧ m'.wl = m.wl ∧
    ∀ (T : List Nat) (s : St) (a : Act), Suf m'.ag T → EnvO P hole N o s T E a → (∀ r, s.K r → r < s.w.heap.size) → s.sg m.nx = none →
      ∃ (cells : Array Value) (v' : Value), Does P o a s.w (fun u w => u = v' ∧ w = s.w.alloc (.cells cells b.el)) ∧ b.n ≤ cells.size ∧
        (∀ i, i < b.n → ∃ u, cells[i]? = some u ∧ VR P hole s (pg b.c i) u) ∧ VT P hole (s.new m.nx (.cells cells b.el)) T v v'
def Sem3 (P : Program) (hole N : Nat) (o : Oper) (E : Nat) (m : Mem) (v : Nat) (m' : Mem) : Prop :=
  MStep m m' ∧ ∀ (T : List Nat) (s : St) (a : Act), Suf m'.ag T → EnvO P hole N o s T E a → Rel P hole s m → Fresh s.sg m.nx m'.nx → Does P o a s.w (After P hole T s m m' v)
def OpSem (P : Program) (hole N : Nat) (o : Oper) (E : Nat) (m : Mem) (v : Nat) (m' : Mem) : Prop :=
  v < cB ∧ ((kindD P o.op = 0 ∧ Sem0 P hole N o E m v m') ∨ (kindD P o.op = 1 ∧ Sem1 P hole N o E m v m') ∨ (kindD P o.op = 2 ∧ Sem2 P hole N o E m v m') ∨ (kindD P o.op = 3 ∧ Sem3 P hole N o E m v m'))

theorem args_get {E : Nat} : ∀ (l : List Operand) (i e : Nat), ((argsF N l).fn E)[i]? = some e → ∃ z, l[i]? = some z ∧ e = (sel N z).fn E := by
  intro l
  induction l with
  | nil => intro i e h; simp [argsF] at h
  | cons x r ih =>
    intro i e h
    have h : ((sel N x).fn E :: (argsF N r).fn E)[i]? = some e := h
    cases i with
    | zero => simp at h; exact ⟨x, rfl, h.symm⟩
    | succ i =>
      obtain ⟨z, h1, h2⟩ := ih i e (by simpa using h)
      exact ⟨z, by simpa using h1, h2⟩
theorem args_len {E : Nat} : ∀ (l : List Operand), ((argsF N l).fn E).length = l.length := by
  intro l
  induction l with
  | nil => rfl
  | cons x r ih => show ((argsF N r).fn E).length + 1 = _; rw [ih]; rfl

theorem opF_sem {call : CallF} (hc : CallOK P hole call) (o : Oper) {E : Nat} {m : Mem} {k : KV} {x : Nat × Mem} (hm : MOK m) (hx : (opF P N o.op).fn call E m k = some x) :
    ∃ v m', k v m' = some x ∧ OpSem P hole N o E m v m' := by
  obtain ⟨E', hsel, henv⟩ := mask_ok (P := P) (hole := hole) (N := N) o E
  rw [opF_ext o.op hsel call m k] at hx
  rcases opF_ok (P := P) (hole := hole) (N := N) o with h | ⟨hk, f, h, hr⟩ | ⟨hk, f, h, hmem, hr⟩ | ⟨hk, f, h, hr⟩ | ⟨hk, f, h, hr⟩ | ⟨hk, g, args, c, h, hd⟩
  · rw [h] at hx
    exact absurd hx (by simp [bad])
  · obtain ⟨v, m', h1, h2, h3, h4⟩ := h call E' m k x hm hx
    refine ⟨v, m', h1, h3, .inl ⟨hk, h2, fun T s a hT ha => ?_⟩⟩
    obtain ⟨v', e1, e2⟩ := h4 T s a hT (henv s T a ha)
    exact ⟨v', hr.does e1, e2⟩
  · obtain ⟨v, m', h1, h2, h3, B, h4, h5⟩ := h call E' m k x hm hx
    refine ⟨v, m', h1, h3, .inr (.inl ⟨hk, h2, B, by rw [hsel _ hmem]; exact h4, hmem, fun T s S a hT hR hS ha => ?_⟩)⟩
    obtain ⟨v', e1, e2⟩ := h5 T s S a hT hR hS (henv s T a ha)
    exact ⟨v', hr.does e1, e2⟩
  · obtain ⟨v, m', b, h1, h2, h3, h4, h5, h6, h7, h8, h9⟩ := h call E' m k x hm hx
    refine ⟨v, m', h1, h8, .inr (.inr (.inl ⟨hk, b, h2, h3, h4, h5, h6, h7, fun T s a hT ha hK hs => ?_⟩))⟩
    obtain ⟨cells, v', e1, e2, e3, e4⟩ := h9 T s a hT (henv s T a ha) hK hs
    exact ⟨cells, v', hr.does e1, e2, e3, e4⟩
  · obtain ⟨v, m', h1, h2, h3, h4⟩ := h call E' m k x hm hx
    refine ⟨v, m', h1, h3, .inr (.inr (.inr ⟨hk, h2, fun T s a hT ha hR hf => ?_⟩))⟩
    obtain ⟨v', s', e1, e2, e3, e4⟩ := h4 T s a hT (henv s T a ha) hR hf
    exact (hr.does e1).mono fun u w hu => ⟨s', hu.2.symm, e2, hu.1 ▸ e3, e4⟩
  · rw [h] at hx
    simp only [callK] at hx
    cases hcall : call g ((argsF N args).fn E') m with
    | none => rw [hcall] at hx; exact absurd hx (by simp)
    | some r =>
      rw [hcall] at hx
      obtain ⟨v, m'⟩ := r
      obtain ⟨h1, h2, h3, h4⟩ := hc g _ m v m' hcall hm (by
        intro e he
        obtain ⟨i, hi⟩ := List.mem_iff_getElem?.1 he
        obtain ⟨z, _, rfl⟩ := args_get args i e hi
        exact sel_lt N z E')
      refine ⟨v, m', hx, h2, .inr (.inr (.inr ⟨hk, h1, fun T s a hT ha hR hf => ?_⟩))⟩
      have hcl := h4 T s (c.args.map a.eval) hT hR hf (by rw [args_len, Array.size_map, ← hd.args]; simp) (fun i e hi => by
        obtain ⟨z, hz, rfl⟩ := args_get args i e hi
        rw [← hd.args] at hz
        exact ⟨a.eval z, by simp at hz; simp [hz], henv s T a ha z⟩)
      intro K Q hK
      unfold Oper.wp execOp
      rw [hd.op]
      have hrun : (do let d ← resolve a.eval c o.type; invoke d.target d.args : Sem Next).run P s.w = .ok (.enter g (c.args.map a.eval)) s.w := by
        simp [resolve, hd.callee, Act.eval, Deferred.ofValue, invoke]
        exact h3 _ _
      simp only
      rw [hrun]
      exact hcl.mono fun e w he => by
        obtain ⟨u, rfl, hu⟩ := he
        exact hK u w hu

/-- whatever the kind -/
theorem OpSem.any {o : Oper} {E : Nat} {m m' : Mem} {v : Nat} (hm : MOK m) (h : OpSem P hole N o E m v m') : Sem3 P hole N o E m v m' := by
  rcases h with ⟨_, ⟨_, h1, h2⟩ | ⟨_, h1, B, h2, _, h3⟩ | ⟨_, b, h1, h2, h3, h4, h5, _, h6⟩ | ⟨_, h⟩⟩
  · refine ⟨h1.step hm, fun T s a hT ha hR hf => ?_⟩
    obtain ⟨v', e1, e2⟩ := h2 T s a hT ha
    refine e1.mono fun u w hu => ⟨s, hu.2.symm, by rw [show m' = m' from rfl]; exact hR.congr fun b => by rw [h1.hp], hu.1 ▸ e2, ?_⟩
    rw [h1.nx]
    exact Evo.same hR fun b hb => by rw [h1.hp] at hb; exact hb
  · refine ⟨h1.step hm, fun T s a hT ha hR hf => ?_⟩
    obtain ⟨v', e1, e2⟩ := h3 T s _ a hT hR (fun b hb => (h2 b hb).1) ha
    refine e1.mono fun u w hu => ⟨s, hu.2.symm, hR.congr h1.mem, hu.1 ▸ e2, ?_⟩
    rw [h1.nx]
    exact Evo.same hR fun b hb => (h1.mem b).1 hb
  · refine ⟨h1, fun T s a hT ha hR hf => ?_⟩
    have hs : s.sg m.nx = none := hf m.nx (Nat.le_refl _) (by omega)
    obtain ⟨cells, v', e1, e2, e3, e4⟩ := h6 T s a hT ha hR.kin hs
    refine e1.mono fun u w hu => ⟨s.new m.nx (.cells cells b.el), hu.2.symm, ?_, hu.1 ▸ e4, ?_⟩
    · have := (RelS.new hR (b := b) (cells := cells) (by rw [h3]; exact hs) e2 e3).1
      rw [h3] at this
      exact this.congr fun c => by rw [h2, List.mem_cons]
    · have := (RelS.new hR (b := b) (cells := cells) (by rw [h3]; exact hs) e2 e3).2
      rw [h3] at this
      rw [h4]
      exact this.congr (fun _ => Iff.rfl) fun c hc => by rw [h2, List.mem_cons] at hc; exact hc
  · exact h
end
end Go.Proofs.YgvaqwGreat.Ev
