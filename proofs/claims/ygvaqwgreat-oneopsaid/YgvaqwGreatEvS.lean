/- The evaluator's operations against the model's: every operation at once. -/
import Derived.Test.YgvaqwGreatEvR
set_option exponentiation.threshold 400
namespace Go.Proofs.YgvaqwGreat.Ev
open Go
section
variable {P : Program} {hole N : Nat}

/-- an operation that reads the block at an operand -/
def KLoad (P : Program) (hole N : Nat) (F : OpF) (f : Act → Sem Value) (y : Operand) : Prop :=
  ∀ call E m k x, MOK m → F.fn call E m k = some x → ∃ v m', k v m' = some x ∧ RStep m m' ∧ v < cB ∧ ∃ B : Option Blk,
    (∀ b, B = some b → b ∈ m.hp ∧ b.nm = nmOf ((sel N y).fn E) ∧ memRef ((sel N y).fn E) = true) ∧
    ∀ (T : List Nat) (s : St) (S : Blk → Prop) (a : Act), Suf m'.ag T → RelS P hole s S → (∀ b, B = some b → S b) → Env P hole N s T E a → ∃ v', (f a).run P s.w = .ok v' s.w ∧ VT P hole s T v v'
theorem LoadU.k {g : Nat → Mem → KV → R} {f : Value → Sem Value} (h : LoadU P hole g f) (y : Operand) : KLoad P hole N (uop (sel N y) g) (fun a => f (a.eval y)) y := by
  intro call E m k x hm hx
  obtain ⟨v, m', h1, h2, h3, B, h4, h5⟩ := h _ m k x (sel_lt N y E) hm hx
  exact ⟨v, m', h1, h2, h3, B, h4, fun T s S a hT hR hS ha => h5 T s S _ hT hR hS (ha y)⟩

/-- the model's operation runs so -/
def Runs (P : Program) (o : Oper) (f : Act → Sem Value) : Prop :=
  ∀ (a : Act) (w : World) v w', (f a).run P w = .ok v w' → ∀ (K : Act → World → Prop) (Q : Exit → Act → World → Prop), K (a.put o.dst v) w' → o.wp P a w K Q
theorem runs_v {o : Oper} {f : Act → Sem Value} (h : ∀ (a : Act) (w : World) v w', (f a).run P w = .ok v w' → (execOp a.eval o).run P w = .ok (.value v) w') : Runs P o f := by
  intro a w v w' hr K Q hK
  unfold Oper.wp
  rw [h a w v w' hr]
  exact hK
theorem runs_d {o : Oper} {f : Act → Sem Value} (h : ∀ a : Act, execOp a.eval o = (do pure (.value (← f a)))) : Runs P o f :=
  runs_v fun a w v w' hr => by rw [h a]; simp [hr]

structure CallD (o : Oper) (g : Nat) (args : List Operand) (c : Call) : Prop where
  op : o.op = .call c
  callee : c.callee = .value (.func g)
  args : c.args.toList = args

/-- what is known of an operation -/
def OpOK (P : Program) (hole N : Nat) (o : Oper) (F : OpF) : Prop :=
  F = bad ∨ (kindD P o.op = 0 ∧ ∃ f, KPure P hole N F f ∧ Runs P o f) ∨ (kindD P o.op = 1 ∧ ∃ f, KLoad P hole N F f (addrD o.op) ∧ addrD o.op ∈ o.op.operands ∧ Runs P o f) ∨
    (kindD P o.op = 2 ∧ ∃ f, KAlloc P hole N F f ∧ Runs P o f) ∨ (kindD P o.op = 3 ∧ ∃ f, KEff P hole N F f ∧ Runs P o f) ∨
    (kindD P o.op = 3 ∧ ∃ g args c, F = callK g (argsF N args) ∧ CallD o g args c)
theorem OpOK.bad' {o : Oper} {F : OpF} (h : F = bad) : OpOK P hole N o F := .inl h
theorem OpOK.pure {o : Oper} {F : OpF} (hk : kindD P o.op = 0) {f : Act → Sem Value} (h : KPure P hole N F f) (hr : Runs P o f) : OpOK P hole N o F := .inr (.inl ⟨hk, f, h, hr⟩)
theorem OpOK.load {o : Oper} {F : OpF} (hk : kindD P o.op = 1) {f : Act → Sem Value} (h : KLoad P hole N F f (addrD o.op)) (hm : addrD o.op ∈ o.op.operands) (hr : Runs P o f) : OpOK P hole N o F := .inr (.inr (.inl ⟨hk, f, h, hm, hr⟩))
theorem OpOK.alloc {o : Oper} {F : OpF} (hk : kindD P o.op = 2) {f : Act → Sem Value} (h : KAlloc P hole N F f) (hr : Runs P o f) : OpOK P hole N o F := .inr (.inr (.inr (.inl ⟨hk, f, h, hr⟩)))
theorem OpOK.eff {o : Oper} {F : OpF} (hk : kindD P o.op = 3) {f : Act → Sem Value} (h : KEff P hole N F f) (hr : Runs P o f) : OpOK P hole N o F := .inr (.inr (.inr (.inr (.inl ⟨hk, f, h, hr⟩))))
theorem OpOK.call {o : Oper} {F : OpF} (hk : kindD P o.op = 3) {g : Nat} {args : List Operand} {c : Call} (h : F = callK g (argsF N args)) (hr : CallD o g args c) : OpOK P hole N o F := .inr (.inr (.inr (.inr (.inr ⟨hk, g, args, c, h, hr⟩))))

/-! ### binary operations -/
theorem cmpF_ok (kd : IntKind) (t : TypeId) (X Y : Operand) (op : BinOp) {u : Nat → Nat → Nat → Mem → KV → R} {s : Nat → Nat → Nat → Nat → Nat → Mem → KV → R}
    (hu : unsg kd = true → PureB P hole (u (ktag kd)) (bsem op t X Y)) (hs : PureB P hole (s (ktag kd) (kH kd) (kM kd)) (bsem op t X Y)) :
    KPure P hole N (cmpF kd u s (sel N X) (sel N Y)) (fun a => bsem op t X Y (a.eval X) (a.eval Y)) := by
  unfold cmpF
  cases h : unsg kd
  · simp only [forceN_eq]
    exact PureB.k hs X Y
  · exact PureB.k (hu h) X Y
/-- greater is less, turned -/
theorem cmp_turn (kd : IntKind) (t t' : TypeId) (X Y X' Y' : Operand) (op op' : BinOp) (hop : (op = .lss ∧ op' = .gtr) ∨ (op = .leq ∧ op' = .geq)) {g : Nat → Nat → Mem → KV → R}
    (hg : ∀ a b m k x, g a b m k = some x → a % 32 = ktag kd ∧ b % 32 = ktag kd) (h : PureB P hole g (bsem op t X Y)) : PureB P hole g (fun u u' => bsem op' t' X' Y' u' u) := by
  intro a b m k x ha hb hm hx
  obtain ⟨g1, g2⟩ := hg a b m k x hx
  obtain ⟨v, m', h1, h2, h3, h4⟩ := h a b m k x ha hb hm hx
  refine ⟨v, m', h1, h2, h3, fun T s u u' hT hu hu' => ?_⟩
  obtain ⟨v', e1, e2⟩ := h4 T s u u' hT hu hu'
  refine ⟨v', ?_, e2⟩
  obtain ⟨_, rfl⟩ := VT.int hu g1
  obtain ⟨_, rfl⟩ := VT.int hu' g2
  rcases hop with ⟨rfl, rfl⟩ | ⟨rfl, rfl⟩ <;> simpa [bsem, eqGuard, binOp, Op.intCmp] using e1
theorem chk2 {a b t : Nat} {r : R} {x : Nat × Mem} (h : chk a t (chk b t r) = some x) : a % 32 = t ∧ b % 32 = t := by
  obtain ⟨h1, h⟩ := chk_ok h
  obtain ⟨h2, _⟩ := chk_ok h
  exact ⟨h1, h2⟩

def BinOK (P : Program) (hole N : Nat) (F : OpF) (op : BinOp) (t : TypeId) (X Y : Operand) : Prop := F = bad ∨ KPure P hole N F (fun a => bsem op t X Y (a.eval X) (a.eval Y))
theorem binF_ok (op : BinOp) (kd : IntKind) (t : TypeId) (X Y : Operand) : BinOK P hole N (binF op kd (sel N X) (sel N Y)) op t X Y := by
  cases op <;> simp only [binF, forceN_eq]
  case add => exact .inr (PureB.k (addI_ok kd t X Y) X Y)
  case sub => exact .inr (PureB.k (subI_ok kd t X Y) X Y)
  case mul => exact .inr (PureB.k (mulI_ok kd t X Y) X Y)
  case quo => exact .inr (PureB.k (divI_ok kd t X Y) X Y)
  case rem => exact .inr (PureB.k (remI_ok kd t X Y) X Y)
  case and => cases h : unsg kd; exact .inl rfl; exact .inr (PureB.k (andI_ok kd h t X Y) X Y)
  case or => cases h : unsg kd; exact .inl rfl; exact .inr (PureB.k (orI_ok kd h t X Y) X Y)
  case xor => cases h : unsg kd; exact .inl rfl; exact .inr (PureB.k (xorI_ok kd h t X Y) X Y)
  case shl => cases h : unsg kd; exact .inl rfl; exact .inr (PureB.k (shlI_ok kd h t X Y) X Y)
  case shr => cases h : unsg kd; exact .inl rfl; exact .inr (PureB.k (shrI_ok kd h t X Y) X Y)
  case eql => exact .inr (PureB.k (eqI_ok kd t X Y) X Y)
  case neq => exact .inr (PureB.k (neI_ok kd t X Y) X Y)
  case lss => exact .inr (cmpF_ok kd t X Y .lss (fun h => ltU_ok kd h t X Y) (ltS_ok kd t X Y))
  case leq => exact .inr (cmpF_ok kd t X Y .leq (fun h => leU_ok kd h t X Y) (leS_ok kd t X Y))
  case gtr =>
    refine .inr ?_
    unfold cmpF
    cases h : unsg kd
    · simp only [forceN_eq]
      exact PureB.k (cmp_turn kd t t Y X X Y .lss .gtr (.inl ⟨rfl, rfl⟩) (fun _ _ _ _ _ hx => chk2 hx) (ltS_ok kd t Y X)) Y X
    · exact PureB.k (cmp_turn kd t t Y X X Y .lss .gtr (.inl ⟨rfl, rfl⟩) (fun _ _ _ _ _ hx => chk2 hx) (ltU_ok kd h t Y X)) Y X
  case geq =>
    refine .inr ?_
    unfold cmpF
    cases h : unsg kd
    · simp only [forceN_eq]
      exact PureB.k (cmp_turn kd t t Y X X Y .leq .geq (.inr ⟨rfl, rfl⟩) (fun _ _ _ _ _ hx => chk2 hx) (leS_ok kd t Y X)) Y X
    · exact PureB.k (cmp_turn kd t t Y X X Y .leq .geq (.inr ⟨rfl, rfl⟩) (fun _ _ _ _ _ hx => chk2 hx) (leU_ok kd h t Y X)) Y X
  all_goals exact .inl rfl
theorem eqF_ok (op : BinOp) (t : TypeId) (X Y : Operand) {e n : Nat → Nat → Mem → KV → R} (he : PureB P hole e (bsem .eql t X Y)) (hn : PureB P hole n (bsem .neq t X Y)) :
    BinOK P hole N (eqF op (sel N X) (sel N Y) e n) op t X Y := by
  cases op
  case eql => exact .inr (PureB.k he X Y)
  case neq => exact .inr (PureB.k hn X Y)
  all_goals exact .inl rfl
theorem strF_ok (op : BinOp) (t : TypeId) (X Y : Operand) : BinOK P hole N (strF op (sel N X) (sel N Y)) op t X Y := by
  cases op
  case lss => exact .inr (PureB.k (ltStr_ok t X Y) X Y)
  case geq => exact .inr (PureB.k (geStr_ok t X Y) X Y)
  all_goals exact .inl rfl
theorem binAny_ok (op : BinOp) (t : TypeId) (X Y : Operand) : BinOK P hole N (binAny P op t (sel N X) (sel N Y)) op t X Y := by
  unfold binAny
  split
  · exact binF_ok op _ t X Y
  · rename_i h; exact eqF_ok op t X Y (eqB_ok t X Y h) (neB_ok t X Y h)
  · exact strF_ok op t X Y
  · rename_i n e ht
    split
    · rename_i i he hi hg
      split
      · rename_i hs; exact eqF_ok op t X Y (eqA_ok ht he hi hs hg X Y) (neA_ok ht he hi hs hg X Y)
      · exact .inl rfl
    · exact .inl rfl
  · rename_i e ht; exact eqF_ok op t X Y (eqNS_ok t e X Y ht) (neNS_ok t e X Y ht)
  · rename_i e ht; exact eqF_ok op t X Y (eqNP_ok t e X Y ht) (neNP_ok t e X Y ht)
  · exact .inl rfl

/-! ### the others -/
theorem szF_split {t : TypeId} {g : Nat → OpF} {C : OpF → Prop} (hb : C bad) (hg : ∀ s, sz P t = some s → C (g s)) : C (szF P t g) := by
  unfold szF
  split
  · rename_i s h; exact hg s h
  · exact hb
theorem fieldOf_split {d : Option TypeDesc} {i : Nat} {k : Field → OpF} {C : OpF → Prop} (hb : C bad) (hg : ∀ fields fd, d = some (.struct fields) → fields[i]? = some fd → C (k fd)) : C (fieldOf d i k) := by
  unfold fieldOf
  split
  · rename_i fields
    split
    · rename_i fd h; exact hg fields fd rfl h
    · exact hb
  · exact hb
theorem slE_split {t : TypeId} {g : Nat → TypeId → OpF} {C : OpF → Prop} (hb : C bad) (hg : ∀ e w, P.underlying t = some (.slice e) → cl P e = some w → C (g w e)) : C (slE P t g) := by
  unfold slE
  split
  · rename_i e h
    split
    · rename_i w h'; exact hg e w h h'
    · exact hb
  · exact hb

theorem builtin_run {o : Oper} {c : Call} {b : Builtin} {f : Act → Sem Value} (ho : o.op = .call c) (hb : c.callee = .builtin b)
    (hf : ∀ a : Act, ∀ consts, builtin b c.argTypes o.type consts (c.args.map a.eval) = (do pure (.value (← f a)))) : Runs P o f := by
  refine runs_v fun a w v w' hr => ?_
  unfold execOp
  rw [ho]
  simp only [resolve, hb, invoke, Sem.run_bind, Sem.run_pure, Result.andThen_ok, hf, hr]

theorem builtinF_ok (o : Oper) (c : Call) (b : Builtin) (ho : o.op = .call c) (hb : c.callee = .builtin b) : OpOK P hole N o (builtinF P N b c.args.toList c.argTypes.toList) := by
  obtain ⟨callee, args, argTypes⟩ := c
  obtain ⟨args⟩ := args
  obtain ⟨ts⟩ := argTypes
  simp only at hb
  subst hb
  unfold builtinF
  split
  · rename_i x t h1 h2
    simp only at h1 h2
    subst h1 h2
    have hk : kindD P o.op = 0 := by rw [ho]; rfl
    have hrun : ∀ {f : Act → Sem Value}, (∀ a : Act, Builtin.len_ #[t] o.type #[a.eval x] = f a) → Runs P o f := fun {f} hf =>
      builtin_run ho rfl (fun a consts => by rw [← hf a]; simp [builtin])
    unfold lenF
    split
    · rename_i e ht
      exact .pure hk (PureU.k (lenSl_ok ht o.type) x) (hrun fun _ => rfl)
    · rename_i n e ht
      exact .pure hk (lenA_ok fun a w => by simp [Builtin.len_, run_underlying ht, goInt]) (hrun fun _ => rfl)
    · rename_i arr ht
      split
      · rename_i n e ha
        exact .pure hk (lenA_ok fun a w => by simp [Builtin.len_, run_underlying ht, run_underlying ha, goInt]) (hrun fun _ => rfl)
      · exact .bad' rfl
    · exact .bad' rfl
  · rename_i s x t u h1 h2
    simp only at h1 h2
    subst h1 h2
    split
    · rename_i htu
      have htu : t = u := beq_t htu
      subst htu
      refine slE_split (C := fun F => OpOK P hole N o F) (.bad' rfl) fun e w ht hc => ?_
      obtain ⟨_, i, hi, hsz⟩ := cl_ok hc
      unfold appF
      rw [hi]
      simp only
      split
      · rename_i z hz hby
        split
        · rename_i hzs
          exact .eff (by rw [ho]; rfl) (append_ok (ty := o.type) ⟨ht, hi, hz, hsz, beq_t hzs, ble_t hby⟩ s x) (builtin_run ho rfl fun a consts => by simp [builtin])
        · exact .bad' rfl
      · exact .bad' rfl
    · exact .bad' rfl
  · rename_i s x t u h1 h2
    simp only at h1 h2
    subst h1 h2
    refine slE_split (C := fun F => OpOK P hole N o F) (.bad' rfl) fun e w ht hc => ?_
    exact .eff (by rw [ho]; rfl) (copy_ok (ty := o.type) (tx := u) ht hc s x) (builtin_run ho rfl fun a consts => by simp [builtin])
  · rename_i s x h1
    simp only at h1
    subst h1
    refine .pure (by rw [ho]; rfl) (PureB.k min2_ok s x) (runs_v fun a w v w' hr => ?_)
    unfold execOp
    rw [ho]
    have : (Builtin.min_ ts.toArray o.type #[a.eval s, a.eval x]).run P w = .ok v w' := by
      simp [Builtin.min_, hr]
    simp [resolve, invoke, builtin, this]
  · exact .bad' rfl

theorem opF_ok (o : Oper) : OpOK P hole N o (opF P N o.op) := by
  cases ho : o.op with
  | move x => exact .pure (by rw [ho]; rfl) (PureU.k idK_ok x) (runs_v fun a w v w' hr => by unfold execOp; rw [ho]; simpa using hr)
  | assign x => exact .pure (by rw [ho]; rfl) (PureU.k idK_ok x) (runs_v fun a w v w' hr => by unfold execOp; rw [ho]; simpa using hr)
  | pick c x y => 
    refine .pure (by rw [ho]; rfl) (pickF_ok c x y) (runs_v fun a w v w' hr => ?_)
    unfold execOp
    rw [ho]
    simp only [Sem.run_bind] at hr ⊢
    cases hb : (asBool (a.eval c)).run P w with
    | ok b w1 => simpa [hb] using hr
    | halt h w1 => simp [hb] at hr
  | alloc t =>
    simp only [opF]
    split
    · rename_i n z hz
      exact .alloc (by rw [ho]; rfl) (allocF_ok hz) (runs_d fun a => by unfold execOp; rw [ho])
    · exact .bad' rfl
  | box t x =>
    simp only [opF]
    split
    · exact .alloc (by rw [ho]; rfl) (boxK_ok x) (runs_d fun a => by unfold execOp; rw [ho])
    · exact .bad' rfl
  | build t parts =>
    simp only [opF]
    split
    · rename_i n z fields hz ht
      split
      · rename_i hall
        exact .pure (by rw [ho]; rfl) (buildS_ok ht hz hall parts) (runs_d fun a => by unfold execOp; rw [ho])
      · exact .bad' rfl
    · rename_i n z len e hz ht
      split
      · rename_i w hc
        exact .pure (by rw [ho]; rfl) (buildA_ok ht hz hc parts) (runs_d fun a => by unfold execOp; rw [ho])
      · exact .bad' rfl
    · exact .bad' rfl
  | buildSlice t len parts =>
    simp only [opF]
    split
    · rename_i e ht
      split
      · rename_i n z w hz hc hl
        split
        · rename_i h1 h2
          exact .alloc (by rw [ho]; rfl) (bslF_ok ht hz hc (beq_t h1) (ble_t hl) (ble_t h2) parts.toList) (runs_d fun a => by
            unfold execOp
            rw [ho]
            simp only
            congr 2
            rw [← Array.toList_map])
        · exact .bad' rfl
      · exact .bad' rfl
    · exact .bad' rfl
  | load t x =>
    simp only [opF]
    refine szF_split (C := fun F => OpOK P hole N o F) (.bad' rfl) fun s hs => ?_
    have hk : kindD P o.op = 1 := by rw [ho]; rfl
    have ha : addrD o.op = x := by rw [ho]; rfl
    have hmem : addrD o.op ∈ o.op.operands := by rw [ha, ho]; simp [Op.operands]
    cases s with
    | zero => exact .load hk (by rw [ha]; exact LoadU.k (ld0_ok hs) x) hmem (runs_d fun a => by unfold execOp; rw [ho])
    | succ w => exact .load hk (by rw [ha]; exact LoadU.k (ldA_ok hs) x) hmem (runs_d fun a => by unfold execOp; rw [ho])
  | store t x y =>
    simp only [opF]
    refine szF_split (C := fun F => OpOK P hole N o F) (.bad' rfl) fun s hs => ?_
    have hk : kindD P o.op = 3 := by rw [ho]; rfl
    have hr : Runs P o (fun a => do Instr.storeAt t (a.eval x) (a.eval y); pure undef) := by
      intro a w v w' hr K Q hK
      unfold Oper.wp execOp
      rw [ho]
      simp only [Sem.run_bind] at hr ⊢
      cases hb : (Instr.storeAt t (a.eval x) (a.eval y)).run P w with
      | ok b w1 =>
        simp only [hb, Result.andThen_ok, Sem.run_pure, Result.ok.injEq] at hr ⊢
        obtain ⟨rfl, rfl⟩ := hr
        exact hK
      | halt h w1 => simp [hb] at hr
    unfold stF
    split
    · rename_i hc; exact .eff hk (st0_ok hc x y) hr
    · exact .eff hk (stA_ok hs x y) hr
    · exact .bad' rfl
  | nilCheck x =>
    simp only [opF]
    refine .pure (by rw [ho]; rfl) (f := fun a => match a.eval x with | .pointer (some q) => pure (.pointer (some q)) | _ => stuck "") ?_ (runs_v fun a w v w' hr => ?_)
    · intro call E m k xx hm hx
      obtain ⟨h1, hz⟩ := chk_ok (show chk ((sel N x).fn E) 10 _ = some xx from hx)
      refine ⟨_, m, hz, PStep.refl hm, sel_lt N x E, fun T s a hT ha => ?_⟩
      obtain ⟨r, _, hv⟩ := VT.ptr (ha x) h1
      refine ⟨_, ?_, ha x⟩
      simp only [hv]
      rfl
    · unfold execOp
      rw [ho]
      simp only at hr ⊢
      split at hr
      · rename_i q hq
        simp only [hq]
        simpa using hr
      · simp at hr
  | binOp op t x y pp =>
    simp only [opF]
    rcases binAny_ok (P := P) (hole := hole) (N := N) op t x y with h | h
    · exact .bad' h
    · exact .pure (by rw [ho]; rfl) h (runs_d fun a => by unfold execOp; rw [ho]; rfl)
  | unOp op t x =>
    simp only [opF]; unfold unF
    have hr : Runs P o (fun a => Op.unary op (a.eval x)) := runs_d fun a => by unfold execOp; rw [ho]
    split
    · exact .pure (by rw [ho]; rfl) (PureU.k notB_ok x) hr
    · split
      · exact .pure (by rw [ho]; rfl) (PureU.k cplI_ok x) hr
      · exact .bad' rfl
    · exact .bad' rfl
  | convert src d x =>
    simp only [opF]; unfold convF
    have hr : Runs P o (fun a => convert src d (a.eval x)) := runs_d fun a => by unfold execOp; rw [ho]
    split
    · rename_i kd hd
      have hk : kindD P o.op = 0 := by rw [ho]; simp [kindD, hd]
      split
      · rename_i ks hs
        cases hu : unsg ks
        · cases ks
          case i64 =>
            simp only [forceN_eq]
            exact .pure hk (PureU.k (cvI_ok .i64 kd (.inr rfl) src d hs hd) x) hr
          all_goals exact .bad' rfl
        · simp only [forceN_eq]
          exact .pure hk (PureU.k (cvI_ok ks kd (.inl hu) src d hs hd) x) hr
      · exact .bad' rfl
    · rename_i hd
      have hk : kindD P o.op = 1 := by rw [ho]; simp [kindD, hd]
      have ha : addrD o.op = x := by rw [ho]; rfl
      have hmem : addrD o.op ∈ o.op.operands := by rw [ha, ho]; simp [Op.operands]
      split
      · rename_i e hs
        split
        · rename_i he; exact .load hk (by rw [ha]; exact LoadU.k (cvStr_ok hs he hd) x) hmem hr
        · exact .bad' rfl
      · exact .bad' rfl
    · exact .bad' rfl
  | sliceToArrayPointer d x =>
    simp only [opF]
    split
    · rename_i n e hd
      exact .pure (by rw [ho]; rfl) (PureU.k (toArr_ok hd) x) (runs_d fun a => by unfold execOp; rw [ho])
    · exact .bad' rfl
  | makeSlice t l c =>
    simp only [opF]
    split
    · rename_i e ht
      split
      · rename_i n z w i hz hc hi
        split
        · rename_i h1 h2
          exact .alloc (by rw [ho]; rfl) (mkSl_ok ht hz hc hi (beq_t h1) (ble_t h2) l c) (runs_d fun a => by unfold execOp; rw [ho])
        · exact .bad' rfl
      · exact .bad' rfl
    · exact .bad' rfl
  | slice t x lo hi mx =>
    have hr : Runs P o (fun a => Instr.sliceAt t (a.eval x) (lo.map a.eval) (hi.map a.eval) (mx.map a.eval)) := runs_d fun a => by unfold execOp; rw [ho]
    have hk : kindD P o.op = 0 := by rw [ho]; rfl
    simp only [opF]; unfold sliceF
    split
    · rename_i n e ht
      unfold slArrF
      split
      · exact .bad' rfl
      · rename_i w hc hb hn
        exact .pure hk (PureE.k (slArr_ok ht hc lo _ _ (fun q => by
          obtain ⟨y, hy⟩ := Option.ne_none_iff_exists'.1 q.2
          exact hb y q.1 hy)) x) hr
      · exact .bad' rfl
    · rename_i e ht
      split
      · rename_i w hc
        exact .pure hk (PureE.k (slMax_ok ht hc lo _ _ (by simp) (by simp)) x) hr
      · rename_i w hc
        exact .pure hk (PureE.k (slBare_ok ht hc lo _) x) hr
      · exact .bad' rfl
    · exact .bad' rfl
  | fieldAddr t x i =>
    simp only [opF]
    refine fieldOf_split (C := fun F => OpOK P hole N o F) (.bad' rfl) fun fields fd ht hf => ?_
    split
    · rename_i w hc hb
      rw [forceN_eq]
      exact .pure (by rw [ho]; rfl) (PureU.k (fAddr_ok ht hf hc (ble_t hb)) x) (runs_d fun a => by unfold execOp; rw [ho])
    · exact .bad' rfl
  | field t x i =>
    simp only [opF]
    refine fieldOf_split (C := fun F => OpOK P hole N o F) (.bad' rfl) fun fields fd ht hf => ?_
    refine szF_split (C := fun F => OpOK P hole N o F) (.bad' rfl) fun s hs => ?_
    have hr : Runs P o (fun a => Instr.field t (a.eval x) i) := runs_d fun a => by unfold execOp; rw [ho]
    cases s with
    | zero => exact .pure (by rw [ho]; rfl) (PureU.k (fd0_ok ht hf hs) x) hr
    | succ w => exact .pure (by rw [ho]; rfl) (PureU.k (fdA_ok ht hf hs) x) hr
  | indexAddr t x i =>
    simp only [opF]
    have hr : Runs P o (fun a => Instr.indexAt t (a.eval x) (a.eval i)) := runs_d fun a => by unfold execOp; rw [ho]
    split
    · rename_i n e ht
      split
      · rename_i w hc hb
        rw [forceN_eq]
        exact .pure (by rw [ho]; rfl) (PureB.k (ixArr_ok ht (ble_t hb) hc) x i) hr
      · exact .bad' rfl
    · rename_i e ht
      split
      · rename_i w hc
        exact .pure (by rw [ho]; rfl) (PureB.k (ixSl_ok ht hc) x i) hr
      · exact .bad' rfl
    · exact .bad' rfl
  | index t x i =>
    simp only [opF]
    have hr : Runs P o (fun a => Instr.index t (a.eval x) (a.eval i)) := runs_d fun a => by unfold execOp; rw [ho]
    split
    · rename_i n e ht
      refine szF_split (C := fun F => OpOK P hole N o F) (.bad' rfl) fun s hs => ?_
      unfold ixF
      split
      · rename_i hb hc; exact .pure (by rw [ho]; rfl) (PureB.k (ix0_ok ht (ble_t hb) hs hc) x i) hr
      · rename_i hb; exact .pure (by rw [ho]; rfl) (PureB.k (ixA_ok ht (ble_t hb) hs) x i) hr
      · exact .bad' rfl
    · exact .bad' rfl
  | extract t i => exact .pure (by rw [ho]; rfl) (PureU.k (extr_ok i) t) (runs_d fun a => by unfold execOp; rw [ho])
  | call c =>
    simp only [opF]
    split
    · rename_i g hg
      exact .call (by rw [ho]; unfold kindD; rw [show c = ⟨c.callee, c.args, c.argTypes⟩ from rfl, hg]) rfl ⟨ho, hg, rfl⟩
    · rename_i b hb
      exact builtinF_ok o c b ho hb
    · exact .bad' rfl
  | _ => exact .bad' rfl
end
end Go.Proofs.YgvaqwGreat.Ev
