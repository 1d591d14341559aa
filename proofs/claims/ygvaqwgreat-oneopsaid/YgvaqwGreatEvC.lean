/- What the evaluator's codes mean: the relation between an abstract state and the model's world. -/
import Derived.Test.YgvaqwGreatEvB
import Derived.RowKit3
set_option exponentiation.threshold 400
namespace Go.Proofs.YgvaqwGreat.Ev
open Go

theorem forceN_eq {β : Type} (n : Nat) (k : Nat → β) : forceN n k = k n := rfl
theorem cutK_eq (m : Mem) (nm : Nat) (k : Mem → R) : cutK m nm k = k ⟨hdel nm m.hp, m.nx, m.ag, m.na, m.wb, tellW m nm⟩ := by cases m; rfl
theorem putFs_eq (s E v : Nat) : (putFs s).fn E v = jmp E s s v := rfl
theorem putF_eq (d : Nat) : ∃ s, s = 320 * (d + 1) ∧ ∀ E v, (putF d).fn E v = jmp E s s v := by
  refine ⟨Nat.mul 320 (d + 1), rfl, fun E v => ?_⟩
  unfold putF
  rw [putFs_eq]
theorem tellN_eq (m : Mem) (nm : Nat) : tellN m.wb m.wl nm = tellW m nm := rfl
theorem setBf_eq (f : Nat → Nat) (b : Blk) (c : Nat) (m : Mem) (e : Nat) (k : KV) : setBf f b c m e k = List.casesOn m.hp none (fun _ r => k e ⟨⟨b.nm, b.n, c, b.el, f b.kd⟩ :: r, m.nx, m.ag, m.na, m.wb, tellW m b.nm⟩) := by
  cases m with
  | mk hp nx ag na wb wl =>
    cases b
    cases hp with
    | nil => rfl
    | cons d r => rfl
theorem setB_eq (b : Blk) (c : Nat) (m : Mem) (e : Nat) (k : KV) : setB b c m e k = List.casesOn m.hp none (fun _ r => k e ⟨⟨b.nm, b.n, c, b.el, salt b.kd⟩ :: r, m.nx, m.ag, m.na, m.wb, tellW m b.nm⟩) :=
  setBf_eq salt b c m e k
theorem newB_eq (e n c t kd : Nat) (m : Mem) (k : KV) : newB e n c t kd m k = Bool.casesOn (Nat.ble m.nx 4294967295) none (k e ⟨⟨m.nx, n, c, t, kd⟩ :: m.hp, Nat.succ m.nx, m.ag, m.na, m.wb, m.wl⟩) := by
  cases m
  simp only [newB, forceN_eq]
theorem newAg_eq (t n p : Nat) (m : Mem) (k : KV) : newAg t n p m k = Bool.casesOn (Nat.ble n 4294967295) none (Bool.casesOn (Nat.ble m.na 4294967295) none (k (mkG t m.na n) ⟨m.hp, m.nx, p :: m.ag, Nat.succ m.na, m.wb, m.wl⟩)) := by
  cases m
  simp only [newAg, forceN_eq]
theorem atB_eq (nm : Nat) (m : Mem) (k : Blk → Mem → R) : atB nm m k = List.casesOn m.hp none (fun b r => Bool.casesOn (Nat.beq b.nm nm) (hget nm r (fun c => k c ⟨c :: b :: hdel nm r, m.nx, m.ag, m.na, m.wb, m.wl⟩)) (k b m)) := by
  cases m
  rfl
theorem drawF_eq (d : DregF) (l : Look) (call : CallF) (E : Nat) (m : Mem) (k : Nat → Mem → R) : (drawF d l).fn call E m k = d.fn call E ⟨m.hp, m.nx, m.ag, m.na, m.nx, []⟩ [] fun E' m' ws =>
    l.fn E' m.nx ws (k E' ⟨m'.hp, m'.nx, m'.ag, m'.na, m.wb, joinW ws m.wl⟩) := by
  cases m
  rfl
theorem effD_eq (c : OpF) (p : PutF) (r : DregF) (call : CallF) (E : Nat) (m : Mem) (ws : List (List Nat)) (k : Nat → Mem → List (List Nat) → R) : (effD c p r).fn call E m ws k = c.fn call E m fun v m => r.fn call (p.fn E v) ⟨m.hp, m.nx, m.ag, m.na, m.wb, []⟩ (m.wl :: ws) k := by
  simp only [effD, forceN_eq]

def toI (k : IntKind) (p : Nat) : Int := if p < kpos k then (p : Int) else (p : Int) - (kmod k : Int)

/-- the real side: where each abstract block lies, which real blocks hold numbers that nobody writes, the world -/
structure St where
  sg : Nat → Option Nat
  K : Nat → Prop
  w : World

def dig (n i : Nat) : Nat := n / 256 ^ i % 256

def NatV (s : St) (v : Value) (n : Nat) : Prop :=
  ∃ b c cells el, s.K b ∧ v = .slice (some ⟨b, 0, none⟩) (digits n) c ∧ digits n ≤ c ∧ s.w.heap[b]? = some (.cells cells el (0, 0)) ∧
    ∀ i, i < digits n → cells[i]? = some (.int .u8 (dig n i : Nat))

def DigV (s : St) (v : Value) (n i : Nat) : Prop :=
  ∃ b cells el, s.K b ∧ v = .pointer (some ⟨b, i, none⟩) ∧ s.w.heap[b]? = some (.cells cells el (0, 0)) ∧ cells[i]? = some (.int .u8 (dig n i : Nat))

/-- twenty bytes, the most significant first -/
def str20 (n : Nat) : ByteArray := ⟨((List.range 20).map fun i => UInt8.ofNat (n / 256 ^ (19 - i) % 256)).toArray⟩

def LooseV (P : Program) (s : St) (e : Nat) (v : Value) : Prop :=
  ∃ r c cells el, s.sg (nmOf e) = some r ∧ v = .slice (some ⟨r, offS e, none⟩) (lenS e) c ∧ capS e ≤ c ∧ s.w.heap[r]? = some (.cells cells el (0, 0)) ∧
    offS e + c * P.cellsOf el ≤ cells.size

/-- one cell's value -/
def VR (P : Program) (hole : Nat) (s : St) (e : Nat) (v : Value) : Prop :=
  match e % 32 with
  | 1 => e / 32 < 256 ∧ v = .int .i8 (toI .i8 (e / 32))
  | 2 => e / 32 < 65536 ∧ v = .int .i16 (toI .i16 (e / 32))
  | 3 => e / 32 < 4294967296 ∧ v = .int .i32 (toI .i32 (e / 32))
  | 4 => e / 32 < 18446744073709551616 ∧ v = .int .i64 (toI .i64 (e / 32))
  | 5 => e / 32 < 256 ∧ v = .int .u8 (toI .u8 (e / 32))
  | 6 => e / 32 < 65536 ∧ v = .int .u16 (toI .u16 (e / 32))
  | 7 => e / 32 < 4294967296 ∧ v = .int .u32 (toI .u32 (e / 32))
  | 8 => e / 32 < 18446744073709551616 ∧ v = .int .u64 (toI .u64 (e / 32))
  | 9 => (e = 9 ∧ v = .bool false) ∨ (e = 41 ∧ v = .bool true)
  | 10 => ∃ r, s.sg (nmOf e) = some r ∧ v = .pointer (some ⟨r, offP e, none⟩)
  | 11 => e = 11 ∧ v = .pointer none
  | 12 => ∃ r, s.sg (nmOf e) = some r ∧ v = .slice (some ⟨r, offS e, none⟩) (lenS e) (capS e)
  | 13 => e = 13 ∧ v = .slice none 0 0
  | 14 => 0 < e / 32 ∧ NatV s v (e / 32)
  | 15 => (e = 15 ∧ v = .int .u8 (hole % 256 : Nat)) ∨ (e = 47 ∧ v = .int .i64 (hole / 256 % 256 : Nat)) ∨ (e = 79 ∧ v = .int .i64 (hole / 65536 : Nat))
  | 16 => DigV s v (e / 2097152) (e / 32 % 65536)
  | 17 => e / 32 < 256 ^ 20 ∧ v = .string (str20 (e / 32))
  | 18 => LooseV P s e v
  | _ => False

/-- aggregate i of the table -/
def agT (T : List Nat) (i : Nat) : Nat := lg (T.length - 1 - i) T

/-- a value of one type -/
def VA (P : Program) (hole : Nat) (s : St) (T : List Nat) (e : Nat) (v : Value) : Prop :=
  match e % 32 with
  | 20 => nmOf e < T.length ∧ agT T (nmOf e) < 2 ^ (320 * (e / 137438953472)) ∧ ∃ cs : Array Value, v = .agg cs ∧ cs.size = e / 137438953472 ∧
      ∀ j, j < e / 137438953472 → ∃ u, cs[j]? = some u ∧ VR P hole s (pg (agT T (nmOf e)) j) u
  | _ => VR P hole s e v

/-- what a temporary holds -/
def VT (P : Program) (hole : Nat) (s : St) (T : List Nat) (e : Nat) (v : Value) : Prop :=
  match e % 32 with
  | 0 => True
  | 21 => nmOf e < T.length ∧ ∃ vs : Array Value, v = .tuple vs ∧ vs.size = e / 137438953472 ∧
      ∀ j, j < e / 137438953472 → ∃ u, vs[j]? = some u ∧ (pg (agT T (nmOf e)) j % 32 = 0 ∨ VA P hole s T (pg (agT T (nmOf e)) j) u)
  | 22 => e = 22 ∧ v = undef
  | _ => VA P hole s T e v

/-- the blocks of S lie where they are said to lie, and read as they are said to read -/
structure RelS (P : Program) (hole : Nat) (s : St) (S : Blk → Prop) : Prop where
  blk : ∀ b, S b → ∃ r cells, s.sg b.nm = some r ∧ s.w.heap[r]? = some (.cells cells b.el (0, 0)) ∧ b.n ≤ cells.size ∧ ¬ s.K r ∧
    ∀ i, i < b.n → ∃ v, cells[i]? = some v ∧ VR P hole s (pg b.c i) v
  inj : ∀ b b', S b → S b' → s.sg b.nm = s.sg b'.nm → b = b'
  kin : ∀ r, s.K r → r < s.w.heap.size

abbrev Rel (P : Program) (hole : Nat) (s : St) (m : Mem) : Prop := RelS P hole s (· ∈ m.hp)

/-- what was true of codes stays true -/
structure Le (s t : St) : Prop where
  sg : ∀ n r, s.sg n = some r → t.sg n = some r
  kk : ∀ r, s.K r → t.K r
  kc : ∀ r, s.K r → t.w.heap[r]? = s.w.heap[r]?
  shape : ∀ (r : Nat) (c : Array Value) (el : TypeId) (fz : Nat × Nat), s.w.heap[r]? = some (.cells c el fz) → ∃ c' : Array Value, t.w.heap[r]? = some (.cells c' el fz) ∧ c'.size = c.size

theorem Le.refl (s : St) : Le s s := ⟨fun _ _ h => h, fun _ h => h, fun _ _ => rfl, fun _ c _ _ h => ⟨c, h, rfl⟩⟩
theorem Le.trans {s t u : St} (h : Le s t) (k : Le t u) : Le s u :=
  ⟨fun n r x => k.sg n r (h.sg n r x), fun r x => k.kk r (h.kk r x), fun r x => (k.kc r (h.kk r x)).trans (h.kc r x), fun r c el fz x => by
    obtain ⟨c', h1, h2⟩ := h.shape r c el fz x
    obtain ⟨c'', h3, h4⟩ := k.shape r c' el fz h1
    exact ⟨c'', h3, h4.trans h2⟩⟩

theorem NatV.le {s t : St} (h : Le s t) {v : Value} {n : Nat} (x : NatV s v n) : NatV t v n := by
  obtain ⟨b, c, cells, el, h1, h2, h5, h3, h4⟩ := x
  exact ⟨b, c, cells, el, h.kk b h1, h2, h5, (h.kc b h1).trans h3, h4⟩
theorem DigV.le {s t : St} (h : Le s t) {v : Value} {n i : Nat} (x : DigV s v n i) : DigV t v n i := by
  obtain ⟨b, cells, el, h1, h2, h3, h4⟩ := x
  exact ⟨b, cells, el, h.kk b h1, h2, (h.kc b h1).trans h3, h4⟩
theorem LooseV.le {P : Program} {s t : St} (h : Le s t) {e : Nat} {v : Value} (x : LooseV P s e v) : LooseV P t e v := by
  obtain ⟨r, c, cells, el, h1, h2, h3, h4, h5⟩ := x
  obtain ⟨c', h6, h7⟩ := h.shape _ _ _ _ h4
  exact ⟨r, c, c', el, h.sg _ _ h1, h2, h3, h6, by omega⟩

section
variable {P : Program} {hole : Nat}

theorem VR.le {s t : St} (h : Le s t) {e : Nat} {v : Value} (x : VR P hole s e v) : VR P hole t e v := by
  unfold VR at *
  split <;> rename_i hq <;> simp only [hq] at x
  all_goals first
    | exact x
    | (obtain ⟨r, h1, h2⟩ := x; exact ⟨r, h.sg _ _ h1, h2⟩)
    | exact ⟨x.1, x.2.le h⟩
    | exact DigV.le h x
    | exact LooseV.le h x

theorem VA.le {s t : St} {T : List Nat} (h : Le s t) {e : Nat} {v : Value} (x : VA P hole s T e v) : VA P hole t T e v := by
  unfold VA at *
  split <;> rename_i hq <;> simp only [hq] at x
  · obtain ⟨h1, h2, cs, h3, h4, h5⟩ := x
    exact ⟨h1, h2, cs, h3, h4, fun j hj => let ⟨u, h6, h7⟩ := h5 j hj; ⟨u, h6, h7.le h⟩⟩
  · exact x.le h

theorem VT.le {s t : St} {T : List Nat} (h : Le s t) {e : Nat} {v : Value} (x : VT P hole s T e v) : VT P hole t T e v := by
  unfold VT at *
  split <;> rename_i hq <;> simp only [hq] at x
  · trivial
  · obtain ⟨h1, vs, h3, h4, h5⟩ := x
    exact ⟨h1, vs, h3, h4, fun j hj => let ⟨u, h6, h7⟩ := h5 j hj; ⟨u, h6, h7.elim .inl fun z => .inr (VA.le h z)⟩⟩
  · exact x
  · exact VA.le h x

/-- scalars are values of one cell -/
theorem VR.one {s : St} {e : Nat} {v : Value} (x : VR P hole s e v) : v.oneCell' = true := by
  unfold VR at x
  split at x
  case h_9 => rcases x with ⟨_, rfl⟩ | ⟨_, rfl⟩ <;> rfl
  case h_10 => obtain ⟨r, _, rfl⟩ := x; rfl
  case h_12 => obtain ⟨r, _, rfl⟩ := x; rfl
  case h_14 => obtain ⟨_, b, c, cells, el, _, rfl, _⟩ := x; rfl
  case h_15 => rcases x with ⟨_, rfl⟩ | ⟨_, rfl⟩ | ⟨_, rfl⟩ <;> rfl
  case h_16 => obtain ⟨b, cells, el, _, rfl, _⟩ := x; rfl
  case h_18 => obtain ⟨r, c, cells, el, _, rfl, _⟩ := x; rfl
  case h_19 => exact x.elim
  all_goals (obtain ⟨_, rfl⟩ := x; rfl)

theorem VA.of_VR {s : St} {T : List Nat} {e : Nat} {v : Value} (h : e % 32 ≠ 20) (x : VR P hole s e v) : VA P hole s T e v := by
  unfold VA; split
  · omega
  · exact x
theorem VR.of_VA {s : St} {T : List Nat} {e : Nat} {v : Value} (h : e % 32 ≠ 20) (x : VA P hole s T e v) : VR P hole s e v := by
  unfold VA at x; split at x
  · omega
  · exact x
theorem VT.of_VA {s : St} {T : List Nat} {e : Nat} {v : Value} (x : VA P hole s T e v) : VT P hole s T e v := by
  unfold VT; split
  · trivial
  · rename_i h; exact (VR.of_VA (by omega) x : VR P hole s e v) |> fun y => by unfold VR at y; simp [h] at y
  · rename_i h; exact (VR.of_VA (by omega) x : VR P hole s e v) |> fun y => by unfold VR at y; simp [h] at y
  · exact x
theorem VA.of_VT {s : St} {T : List Nat} {e : Nat} {v : Value} (h0 : e % 32 ≠ 0) (h1 : e % 32 ≠ 21) (h2 : e % 32 ≠ 22) (x : VT P hole s T e v) : VA P hole s T e v := by
  unfold VT at x; split at x
  · omega
  · omega
  · omega
  · exact x
theorem VR.of_VT {s : St} {T : List Nat} {e : Nat} {v : Value} (h : 1 ≤ e % 32) (h' : e % 32 ≤ 18) (x : VT P hole s T e v) : VR P hole s e v :=
  VR.of_VA (by omega) (VA.of_VT (by omega) (by omega) (by omega) x)
theorem VR.tag {s : St} {e : Nat} {v : Value} (x : VR P hole s e v) : 1 ≤ e % 32 ∧ e % 32 ≤ 18 := by
  unfold VR at x
  split at x
  case h_19 => exact x.elim
  all_goals omega
theorem VT.of_VR {s : St} {T : List Nat} {e : Nat} {v : Value} (x : VR P hole s e v) : VT P hole s T e v :=
  VT.of_VA (VA.of_VR (by have := x.tag; omega) x)
theorem VT.top {s : St} {T : List Nat} {e : Nat} {v : Value} (h : e % 32 = 0) : VT P hole s T e v := by unfold VT; simp [h]

/-! ### the aggregates' table -/
def Suf (l T : List Nat) : Prop := ∃ x, T = x ++ l
theorem Suf.refl (l : List Nat) : Suf l l := ⟨[], rfl⟩
theorem Suf.trans {a b c : List Nat} (h : Suf a b) (k : Suf b c) : Suf a c := by
  obtain ⟨x, rfl⟩ := h; obtain ⟨y, rfl⟩ := k; exact ⟨y ++ x, by simp⟩
theorem Suf.cons (a : Nat) (l : List Nat) : Suf l (a :: l) := ⟨[a], rfl⟩
theorem Suf.length {a b : List Nat} (h : Suf a b) : a.length ≤ b.length := by obtain ⟨x, rfl⟩ := h; simp

theorem lg_eq (n : Nat) (l : List Nat) : lg n l = l.getD n 0 := by
  induction n generalizing l with
  | zero => cases l <;> rfl
  | succ n ih =>
    cases l with
    | nil => rfl
    | cons a r =>
      show lg n r = _
      rw [ih]; simp

theorem agT_suf {a T : List Nat} (h : Suf a T) {i : Nat} (hi : i < a.length) : agT T i = agT a i := by
  obtain ⟨x, rfl⟩ := h
  unfold agT
  rw [lg_eq, lg_eq]
  have e : (x ++ a).length - 1 - i = x.length + (a.length - 1 - i) := by simp; omega
  rw [e]
  simp [List.getD, List.getElem?_append_right]
theorem agT_head (p : Nat) (a : List Nat) : agT (p :: a) a.length = p := by
  unfold agT
  rw [lg_eq]
  simp

/-! ### what a step may do to the world -/
structure Evo (s t : St) (S S' : Blk → Prop) (lo hi : Nat) : Prop where
  os : t.w.os = s.w.os
  out : t.w.output = s.w.output
  size : s.w.heap.size ≤ t.w.heap.size
  keep : ∀ r, r < s.w.heap.size → (∀ b, S b → s.sg b.nm ≠ some r) → t.w.heap[r]? = s.w.heap[r]?
  shape : ∀ (r : Nat) (c : Array Value) (el : TypeId) (fz : Nat × Nat), s.w.heap[r]? = some (.cells c el fz) → ∃ c' : Array Value, t.w.heap[r]? = some (.cells c' el fz) ∧ c'.size = c.size
  froz : ∀ a, t.w.frozen? a = s.w.frozen? a
  sg : ∀ n r, s.sg n = some r → t.sg n = some r
  sgn : ∀ n, t.sg n ≠ s.sg n → lo ≤ n ∧ n < hi
  kk : ∀ r, s.K r → t.K r
  kn : ∀ r, t.K r → s.K r ∨ s.w.heap.size ≤ r
  new : ∀ b, S' b → ∃ r, t.sg b.nm = some r ∧ (s.w.heap.size ≤ r ∨ ∃ c, S c ∧ s.sg c.nm = some r)

theorem Evo.trans {s t u : St} {S S' S'' : Blk → Prop} {lo mid hi : Nat} (h : Evo s t S S' lo mid) (k : Evo t u S' S'' mid hi) (h1 : lo ≤ mid) (h2 : mid ≤ hi) :
    Evo s u S S'' lo hi where
  os := k.os.trans h.os
  out := k.out.trans h.out
  size := Nat.le_trans h.size k.size
  keep r hr hS := by
    rw [k.keep r (Nat.lt_of_lt_of_le hr h.size) ?_, h.keep r hr hS]
    intro b hb hc
    obtain ⟨r', e1, e2⟩ := h.new b hb
    rw [e1] at hc
    cases hc
    rcases e2 with e2 | ⟨c, hc, e3⟩
    · omega
    · exact hS c hc e3
  shape r c el fz x := by
    obtain ⟨c', h1, h2⟩ := h.shape r c el fz x
    obtain ⟨c'', h3, h4⟩ := k.shape r c' el fz h1
    exact ⟨c'', h3, h4.trans h2⟩
  froz a := (k.froz a).trans (h.froz a)
  sg n r x := k.sg n r (h.sg n r x)
  sgn n x := by
    by_cases e : t.sg n = s.sg n
    · have := k.sgn n (by rw [e]; exact x); omega
    · have := h.sgn n e; omega
  kk r x := k.kk r (h.kk r x)
  kn r x := by
    rcases k.kn r x with y | y
    · exact h.kn r y
    · exact .inr (Nat.le_trans h.size y)
  new b hb := by
    obtain ⟨r, e1, e2⟩ := k.new b hb
    refine ⟨r, e1, ?_⟩
    rcases e2 with e2 | ⟨c, hc, e3⟩
    · exact .inl (Nat.le_trans h.size e2)
    · obtain ⟨r', e4, e5⟩ := h.new c hc
      rw [e3] at e4
      cases e4
      exact e5

theorem Evo.le {s t : St} {S S' : Blk → Prop} {lo hi : Nat} (h : Evo s t S S' lo hi) (R : RelS P hole s S) : Le s t :=
  ⟨h.sg, h.kk, fun r hr => h.keep r (R.kin r hr) (fun b hb e => by
    obtain ⟨r', cells, e1, _, _, e2, _⟩ := R.blk b hb
    rw [e1] at e; cases e; exact e2 hr), h.shape⟩

/-- nothing turned -/
theorem Evo.same {s : St} {S S' : Blk → Prop} {n : Nat} (R : RelS P hole s S) (h : ∀ b, S' b → S b) : Evo s s S S' n n :=
  ⟨rfl, rfl, Nat.le_refl _, fun _ _ _ => rfl, fun _ c _ _ h => ⟨c, h, rfl⟩, fun _ => rfl, fun _ _ h => h, fun _ h => (h rfl).elim, fun _ h => h, fun _ h => .inl h, fun b hb => by
    obtain ⟨r, cells, e1, _⟩ := R.blk b (h b hb)
    exact ⟨r, e1, .inr ⟨b, h b hb, e1⟩⟩⟩

theorem RelS.sub {s : St} {S S' : Blk → Prop} (R : RelS P hole s S) (h : ∀ b, S' b → S b) : RelS P hole s S' :=
  ⟨fun b hb => R.blk b (h b hb), fun b b' hb hb' => R.inj b b' (h b hb) (h b' hb'), R.kin⟩

/-- how many draws were made is of no weight -/
def St.drew (s : St) : St := ⟨s.sg, s.K, s.w.drew⟩
theorem Evo.drew (s : St) {S : Blk → Prop} {n : Nat} (R : RelS P hole s S) : Evo s s.drew S S n n :=
  ⟨rfl, rfl, Nat.le_refl _, fun _ _ _ => rfl, fun _ c _ _ h => ⟨c, h, rfl⟩, fun _ => rfl, fun _ _ h => h, fun _ h => (h rfl).elim, fun _ h => h, fun _ h => .inl h, fun b hb => by
    obtain ⟨r, cells, e1, _⟩ := R.blk b hb
    exact ⟨r, e1, .inr ⟨b, hb, e1⟩⟩⟩
theorem Le.drew (s : St) : Le s s.drew := ⟨fun _ _ h => h, fun _ h => h, fun _ _ => rfl, fun _ c _ _ h => ⟨c, h, rfl⟩⟩
theorem RelS.drew {s : St} {S : Blk → Prop} (R : RelS P hole s S) : RelS P hole s.drew S :=
  ⟨fun b hb => by
    obtain ⟨r, cells, e1, e2, e3, e4, e5⟩ := R.blk b hb
    exact ⟨r, cells, e1, e2, e3, e4, fun i hi => let ⟨v, e6, e7⟩ := e5 i hi; ⟨v, e6, e7.le (Le.drew s)⟩⟩, R.inj, R.kin⟩

/-! ### temporaries -/
def tg (E t : Nat) : Nat := pg E (t + 1)
theorem tg_lt (E t : Nat) : tg E t < cB := pg_lt E (t + 1)
theorem tg_jmp {E d K v : Nat} (hv : v < cB) (t : Nat) : tg (jmp E (320 * (d + 1)) K v) t = if t = d then v else tg E t := by
  obtain ⟨j, hj, e⟩ : ∃ j, j < 2 ^ 320 ∧ jmp E (320 * (d + 1)) K v = E ^^^ (((pg E (d + 1) ^^^ v) <<< (320 * (d + 1))) ||| j) := by
    unfold jmp
    generalize mixK K = K'
    refine ⟨Nat.mod (Nat.mul (Nat.xor (pgS E (320 * (d + 1))) v) K') 2305843009213693951, Nat.lt_of_lt_of_le (Nat.mod_lt _ (by decide)) (by decide +kernel), ?_⟩
    have hj : Nat.mod (Nat.mul (Nat.xor (pgS E (320 * (d + 1))) v) K') 2305843009213693951 < 2 ^ 320 := Nat.lt_of_lt_of_le (Nat.mod_lt _ (by decide)) (by decide +kernel)
    generalize Nat.mod (Nat.mul (Nat.xor (pgS E (320 * (d + 1))) v) K') 2305843009213693951 = j at hj
    show E ^^^ (((pg E (d + 1) ^^^ v) <<< (320 * (d + 1))) + j) = _
    rw [Nat.shiftLeft_add_eq_or_of_lt (Nat.lt_of_lt_of_le hj (Nat.pow_le_pow_right (by omega) (by omega)))]
  have key : pg (jmp E (320 * (d + 1)) K v) (t + 1) = pg (ps E (d + 1) v) (t + 1) := by
    apply Nat.eq_of_testBit_eq
    intro b
    rw [bit_pg, bit_pg, e, ps_eq, Nat.testBit_xor, Nat.testBit_xor, Nat.testBit_or, bit_hi hj (show 320 ≤ 320 * (t + 1) + b by omega), Bool.or_false]
  unfold tg
  rw [key, pg_ps hv]
  by_cases h : t = d
  · rw [if_pos h, if_pos (by omega)]
  · rw [if_neg h, if_neg (by omega)]
structure ERel (P : Program) (hole : Nat) (s : St) (T : List Nat) (N E : Nat) (a : Act) : Prop where
  size : a.tmps.size = N
  val : ∀ t, t < N → ∃ v, a.tmps[t]? = some v ∧ VT P hole s T (tg E t) v

theorem ERel.le {s t : St} {T : List Nat} {N E : Nat} {a : Act} (h : Le s t) (x : ERel P hole s T N E a) : ERel P hole t T N E a :=
  ⟨x.size, fun i hi => let ⟨v, e1, e2⟩ := x.val i hi; ⟨v, e1, e2.le h⟩⟩

end
end Go.Proofs.YgvaqwGreat.Ev
