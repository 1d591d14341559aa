/- The evaluator's memory against the model's: finding a block, loading, making a block, writing one. -/
import Derived.Test.YgvaqwGreatEvK
import Derived.Laws.CopyRow
import Derived.Laws.AppendOwn
set_option exponentiation.threshold 400
namespace Go.Proofs.YgvaqwGreat.Ev
open Go

/-! ### finding a block -/
abbrev Nod (h : Hp) : Prop := h.Pairwise (fun b b' => b.nm ≠ b'.nm)
theorem find_aux (nm : Nat) (k : Blk → R) (x : Nat × Mem) : ∀ (fuel : Nat) (h : Hp), Nod h →
    (Nat.rec (motive := fun _ => Hp → R) (fun _ => none) (fun _ ih l => List.casesOn l none (fun b r => Bool.casesOn (Nat.beq b.nm nm) (ih r) (k b))) fuel h : R) = some x →
    ∃ b, b ∈ h ∧ b.nm = nm ∧ k b = some x ∧
      (∀ c, c ∈ (Nat.rec (motive := fun _ => Hp → Hp) (fun l => l) (fun _ ih l => List.casesOn l [] (fun b r => Bool.casesOn (Nat.beq b.nm nm) (b :: ih r) r)) fuel h : Hp) ↔ c ∈ h ∧ c.nm ≠ nm) ∧
      Nod (Nat.rec (motive := fun _ => Hp → Hp) (fun l => l) (fun _ ih l => List.casesOn l [] (fun b r => Bool.casesOn (Nat.beq b.nm nm) (b :: ih r) r)) fuel h : Hp) := by
  intro fuel
  induction fuel with
  | zero => intro h _ hx; exact absurd hx (by simp)
  | succ fuel ih =>
    intro h hn hx
    cases h with
    | nil => exact absurd hx (by simp)
    | cons b r =>
      rw [Nod, List.pairwise_cons] at hn
      cases hb : Nat.beq b.nm nm
      · simp only [hb] at hx ⊢
        obtain ⟨c, h1, h2, h3, h4, h5⟩ := ih r hn.2 hx
        have hbn := beq_f hb
        refine ⟨c, List.mem_cons_of_mem _ h1, h2, h3, fun d => ?_, ?_⟩
        · rw [List.mem_cons, List.mem_cons, h4]
          constructor
          · rintro (rfl | ⟨h6, h7⟩)
            · exact ⟨.inl rfl, hbn⟩
            · exact ⟨.inr h6, h7⟩
          · rintro ⟨rfl | h6, h7⟩
            · exact .inl rfl
            · exact .inr ⟨h6, h7⟩
        · rw [Nod, List.pairwise_cons]
          exact ⟨fun d hd => hn.1 d ((h4 d).1 hd).1, h5⟩
      · simp only [hb] at hx ⊢
        have hbn := beq_t hb
        refine ⟨b, List.mem_cons_self, hbn, hx, fun d => ?_, hn.2⟩
        rw [List.mem_cons]
        constructor
        · intro hd; exact ⟨.inr hd, fun e => hn.1 d hd (by rw [hbn, e])⟩
        · rintro ⟨rfl | h6, h7⟩
          · exact absurd hbn h7
          · exact h6
theorem hget_ok {nm : Nat} {h : Hp} {k : Blk → R} {x : Nat × Mem} (hx : hget nm h k = some x) (hn : Nod h) :
    ∃ b, b ∈ h ∧ b.nm = nm ∧ k b = some x ∧ (∀ c, c ∈ hdel nm h ↔ c ∈ h ∧ c.nm ≠ nm) ∧ Nod (hdel nm h) := find_aux nm k x hfuel h hn hx

/-- memory stays; the order of its blocks may turn, and the table of aggregates grow -/
structure RStep (m m' : Mem) : Prop where
  mem : ∀ c, c ∈ m'.hp ↔ c ∈ m.hp
  nod : Nod m'.hp
  nx : m'.nx = m.nx
  ag : Suf m.ag m'.ag
  na : m'.na = m'.ag.length
  wb : m'.wb = m.wb
  wl : m'.wl = m.wl
theorem RStep.refl {m : Mem} (h : MOK m) : RStep m m := ⟨fun _ => Iff.rfl, h.nod, rfl, Suf.refl _, h.na, rfl, rfl⟩
theorem PStep.r {m m' : Mem} (p : PStep m m') (h : MOK m) : RStep m m' := ⟨fun c => by rw [p.hp], by rw [p.hp]; exact h.nod, p.nx, p.ag, p.na, p.wb, p.wl⟩
theorem RStep.trans {m m' m'' : Mem} (p : RStep m m') (q : RStep m' m'') : RStep m m'' :=
  ⟨fun c => (q.mem c).trans (p.mem c), q.nod, q.nx.trans p.nx, p.ag.trans q.ag, q.na, q.wb.trans p.wb, q.wl.trans p.wl⟩
theorem RStep.ok {m m' : Mem} (p : RStep m m') (h : MOK m) : MOK m' :=
  ⟨fun b hb => by rw [p.nx]; exact h.nmb b ((p.mem b).1 hb), p.nod, p.na, by rw [p.wb, p.nx]; exact h.wb⟩
theorem RStep.step {m m' : Mem} (p : RStep m m') (h : MOK m) : MStep m m' :=
  ⟨p.ok h, by rw [p.nx]; exact Nat.le_refl _, p.ag, p.wb, [], by rw [p.wl]; rfl, fun b _ _ => (p.mem b).symm⟩

theorem atB_ok {nm : Nat} {m : Mem} {k : Blk → Mem → R} {x : Nat × Mem} (h : atB nm m k = some x) (hm : MOK m) :
    ∃ b m', b ∈ m.hp ∧ b.nm = nm ∧ k b m' = some x ∧ RStep m m' ∧ m'.ag = m.ag ∧ ∃ r, m'.hp = b :: r := by
  rw [atB_eq] at h
  cases hh : m.hp with
  | nil => simp only [hh] at h; exact absurd h (by simp)
  | cons b r =>
    simp only [hh] at h
    cases hb : Nat.beq b.nm nm
    · simp only [hb] at h
      have hn := hm.nod
      rw [hh, List.pairwise_cons] at hn
      obtain ⟨c, h1, h2, h3, h4, h5⟩ := hget_ok h hn.2
      have hbn := beq_f hb
      refine ⟨c, _, List.mem_cons_of_mem _ h1, h2, h3, ⟨fun d => ?_, ?_, rfl, Suf.refl _, hm.na, rfl, rfl⟩, rfl, _, rfl⟩
      · rw [hh]
        show d ∈ c :: b :: hdel nm r ↔ _
        rw [List.mem_cons, List.mem_cons, List.mem_cons, h4]
        constructor
        · rintro (rfl | rfl | ⟨h6, _⟩)
          · exact .inr h1
          · exact .inl rfl
          · exact .inr h6
        · rintro (rfl | h6)
          · exact .inr (.inl rfl)
          · by_cases e : d.nm = nm
            · left
              have hu : MOK m := hm
              exact hu.uniq (by rw [hh]; exact List.mem_cons_of_mem _ h6) (by rw [hh]; exact List.mem_cons_of_mem _ h1) (by rw [e, h2])
            · exact .inr (.inr ⟨h6, e⟩)
      · show Nod (c :: b :: hdel nm r)
        rw [Nod, List.pairwise_cons, List.pairwise_cons]
        refine ⟨fun d hd => ?_, fun d hd => hn.1 d ((h4 d).1 hd).1, h5⟩
        rcases List.mem_cons.1 hd with rfl | hd
        · rw [h2]; exact fun e => hbn e.symm
        · rw [h2]; exact fun e => ((h4 d).1 hd).2 e.symm
    · simp only [hb] at h
      exact ⟨b, m, List.mem_cons_self, beq_t hb, h, RStep.refl hm, rfl, r, hh⟩

theorem tellW_ok (m : Mem) (nm : Nat) : ∃ l, tellW m nm = l ++ m.wl ∧ (nm < m.wb → nm ∈ l) := by
  unfold tellW tellN
  cases h : Nat.ble m.wb nm
  · exact ⟨[nm], rfl, fun _ => by simp⟩
  · exact ⟨[], rfl, fun h' => by have := ble_t h; omega⟩

/-- the block at the head is written -/
theorem setB_ok {b : Blk} {c : Nat} {m : Mem} {e : Nat} {k : KV} {x : Nat × Mem} (h : setB b c m e k = some x) (hm : MOK m) (hb : ∃ r, m.hp = b :: r) :
    ∃ m', k e m' = some x ∧ MStep m m' ∧ m'.nx = m.nx ∧ m'.ag = m.ag ∧ (∀ d, d ∈ m'.hp ↔ d = ⟨b.nm, b.n, c, b.el, salt b.kd⟩ ∨ (d ∈ m.hp ∧ d ≠ b)) := by
  obtain ⟨r, hr⟩ := hb
  rw [setB_eq] at h
  simp only [hr] at h
  have hn := hm.nod
  rw [hr, List.pairwise_cons] at hn
  have hmem : ∀ d, d ∈ (⟨b.nm, b.n, c, b.el, salt b.kd⟩ :: r : Hp) ↔ d = ⟨b.nm, b.n, c, b.el, salt b.kd⟩ ∨ (d ∈ m.hp ∧ d ≠ b) := by
    intro d
    rw [hr, List.mem_cons, List.mem_cons]
    constructor
    · rintro (h | h)
      · exact .inl h
      · exact .inr ⟨.inr h, fun e => hn.1 d h (by rw [e])⟩
    · rintro (h | ⟨h | h, h'⟩)
      · exact .inl h
      · exact absurd h h'
      · exact .inr h
  refine ⟨_, h, ⟨⟨fun d hd => ?_, ?_, hm.na, hm.wb⟩, Nat.le_refl _, Suf.refl _, rfl, ?_⟩, rfl, rfl, hmem⟩
  · rcases (hmem d).1 hd with rfl | ⟨h1, _⟩
    · exact hm.nmb b (by rw [hr]; exact List.mem_cons_self)
    · exact hm.nmb d h1
  · show Nod (_ :: r)
    rw [Nod, List.pairwise_cons]
    exact hn
  · obtain ⟨l, h1, h2⟩ := tellW_ok m b.nm
    refine ⟨l, h1, fun d hd hl => ?_⟩
    show d ∈ m.hp ↔ d ∈ (⟨b.nm, b.n, c, b.el, salt b.kd⟩ :: r : Hp)
    rw [hmem]
    constructor
    · intro hdm
      refine .inr ⟨hdm, ?_⟩
      rintro rfl
      exact hl (h2 hd)
    · rintro (rfl | ⟨h3, _⟩)
      · exact absurd (h2 hd) hl
      · exact h3

/-- a new block -/
theorem newB_ok {e n c t kd : Nat} {m : Mem} {k : KV} {x : Nat × Mem} (h : newB e n c t kd m k = some x) (hm : MOK m) :
    ∃ m', k e m' = some x ∧ MStep m m' ∧ m.nx < 4294967296 ∧ m'.nx = m.nx + 1 ∧ m'.ag = m.ag ∧ m'.hp = ⟨m.nx, n, c, t, kd⟩ :: m.hp ∧ m'.wl = m.wl := by
  rw [newB_eq] at h
  obtain ⟨h1, h2⟩ := bc h
  have h1 : m.nx ≤ 4294967295 := ble_t h1
  refine ⟨_, h2, ⟨⟨fun d hd => ?_, ?_, hm.na, Nat.le_succ_of_le hm.wb⟩, Nat.le_succ _, Suf.refl _, rfl, [], rfl, fun d hd _ => ?_⟩, by omega, rfl, rfl, rfl, rfl⟩
  · rcases List.mem_cons.1 hd with rfl | hd
    · exact Nat.lt_succ_self _
    · exact Nat.lt_succ_of_lt (hm.nmb d hd)
  · show Nod (_ :: m.hp)
    rw [Nod, List.pairwise_cons]
    exact ⟨fun d hd e => by have := hm.nmb d hd; simp only at e; omega, hm.nod⟩
  · show d ∈ m.hp ↔ d ∈ (_ :: m.hp : Hp)
    rw [List.mem_cons]
    constructor
    · exact .inr
    · rintro (rfl | h)
      · have := hm.wb; simp only at hd; omega
      · exact h

section
variable {P : Program} {hole : Nat}

/-! ### loading -/
theorem cell_of {w : World} {r off : Nat} {cells : Array Value} {el : TypeId} {fz : Nat × Nat} (h : w.heap[r]? = some (.cells cells el fz)) : w.cell? ⟨r, off, none⟩ = cells[off]? := by
  simp [World.cell?, h]
/-- an operation that reads the block at its operand -/
def LoadU (P : Program) (hole : Nat) (g : Nat → Mem → KV → R) (f : Value → Sem Value) : Prop :=
  ∀ e m k x, e < cB → MOK m → g e m k = some x → ∃ v m', k v m' = some x ∧ RStep m m' ∧ v < cB ∧ ∃ B : Option Blk,
    (∀ b, B = some b → b ∈ m.hp ∧ b.nm = nmOf e ∧ memRef e = true) ∧
    ∀ (T : List Nat) (s : St) (S : Blk → Prop) u, Suf m'.ag T → RelS P hole s S → (∀ b, B = some b → S b) → VT P hole s T e u → ∃ v', (f u).run P s.w = .ok v' s.w ∧ VT P hole s T v v'

theorem memRef_ptr {e : Nat} (h : e % 32 = 10) : memRef e = true := by
  unfold memRef
  have : Nat.beq (Nat.mod e 32) 10 = true := by rw [show Nat.mod e 32 = 10 from h]; rfl
  rw [this]
theorem ld0_ok {t : TypeId} (hs : sz P t = some 0) : LoadU P hole ld0 (fun u => Instr.loadAt t u) := by
  intro e m kk x he hm h
  obtain ⟨d, i, hd, hi, hdi⟩ := sz_ok hs
  have hag : isAggD d = false := by rcases hdi with ⟨_, h⟩ | ⟨h, _⟩; omega; exact h
  have hload : ∀ (a : Addr) (v : Value) (w : World), w.cell? a = some v → (Instr.loadAt t (.pointer (some a))).run P w = .ok v w := by
    intro a v w hc
    simp [Instr.loadAt, Instr.sureAddr, loadVar, run_isAgg hd, hag, hc]
  unfold ld0 at h
  cases h1 : Nat.beq (Nat.mod e 32) 10
  · rw [h1] at h
    obtain ⟨h2, h⟩ := chk_ok h
    refine ⟨_, m, h, RStep.refl hm, int_lt_cB (k := .u8) (p := Nat.mod (Nat.shiftRight (Nat.div e 2097152) (Nat.mul 8 (Nat.mod (Nat.div e 32) 65536))) 256) (Nat.mod_lt _ (by omega)), none, (fun b hb => by cases hb), fun T s S u hT _ _ hu => ?_⟩
    have y : VR P hole s e u := VR.of_VT (by omega) (by omega) hu
    unfold VR at y
    simp only [h2] at y
    obtain ⟨b, cells, el, _, rfl, y2, y3⟩ := y
    refine ⟨_, hload _ _ _ (by rw [cell_of y2, y3]), VT.of_VR ?_⟩
    have e1 : Nat.mod (Nat.shiftRight (Nat.div e 2097152) (Nat.mul 8 (Nat.mod (Nat.div e 32) 65536))) 256 = dig (e / 2097152) (e / 32 % 65536) := by
      show (e / 2097152) >>> (8 * (e / 32 % 65536)) % 256 = _
      unfold dig
      rw [Nat.shiftRight_eq_div_pow, Nat.pow_mul]
    rw [e1]
    exact VR.mk_byte (Nat.mod_lt _ (by omega))
  · rw [h1] at h
    have ht : e % 32 = 10 := beq_t h1
    obtain ⟨b, m', h2, h3, h4, h5, _, _⟩ := atB_ok h hm
    obtain ⟨h6, h7⟩ := bc h4
    have h6 : offP e + 1 ≤ b.n := ble_t h6
    refine ⟨_, m', h7, h5, pg_lt _ _, some b, (fun c hc => by cases hc; exact ⟨h2, h3, memRef_ptr ht⟩), fun T s S u hT hR hS hu => ?_⟩
    obtain ⟨r, cells, e1, e2, e3, _, e5⟩ := hR.blk b (hS b rfl)
    obtain ⟨r', e6, rfl⟩ := VT.ptr hu ht
    rw [h3, e6] at e1
    cases e1
    obtain ⟨v, e7, e8⟩ := e5 (offP e) (by omega)
    exact ⟨v, hload _ _ _ (by rw [cell_of e2, e7]), VT.of_VR e8⟩
theorem ldA_ok {t : TypeId} {n : Nat} (hs : sz P t = some (n + 1)) : LoadU P hole (ldA n) (fun u => Instr.loadAt t u) := by
  intro e m kk x he hm h
  obtain ⟨d, i, hd, hi, hdi⟩ := sz_ok hs
  have hag : isAggD d = true ∧ i.size = n := by rcases hdi with ⟨h1, h2⟩ | ⟨_, h⟩; exact ⟨h1, by omega⟩; omega
  obtain ⟨ht, h⟩ := chk_ok h
  obtain ⟨b, m', h2, h3, h4, h5, h5a, _⟩ := atB_ok h hm
  obtain ⟨h6, h7⟩ := bc h4
  have h6 : offP e + n ≤ b.n := ble_t h6
  obtain ⟨v, m'', h8, h9, h10, h11, h12, h13, h14⟩ := newAg_ok h7 (h5.ok hm) (by omega)
  refine ⟨v, m'', h8, h5.trans (h9.r (h5.ok hm)), h10, some b, (fun c hc => by cases hc; exact ⟨h2, h3, memRef_ptr ht⟩), fun T s S u hT hR hS hu => ?_⟩
  obtain ⟨r, cells, e1, e2, e3, _, e5⟩ := hR.blk b (hS b rfl)
  obtain ⟨r', e6, rfl⟩ := VT.ptr hu ht
  rw [h3, e6] at e1
  cases e1
  have hlen : nmOf v < m''.ag.length := by rw [h13, h14]; simp
  have hagT : agT T (nmOf v) = rgN b.c (offP e) n := by rw [agT_suf hT hlen, h13, h14, agT_head]
  refine ⟨.agg (cells.extract (offP e) (offP e + n)), ?_, VT.mk_agg h11 (Nat.lt_of_lt_of_le hlen hT.length) (by rw [hagT, h12]; exact rgN_lt _ _ _) (by rw [h12]; simp; omega) fun j hj => ?_⟩
  · have hl : (loadCells ⟨r, offP e, none⟩ n).run P s.w = .ok (cells.extract (offP e) (offP e + n)) s.w := by
      have hlen : (cells.extract (offP e) (offP e + n)).toList.length = n := by simp; omega
      have := run_loadCells_list (P := P) s.w ⟨r, offP e, none⟩ (cells.extract (offP e) (offP e + n)).toList (fun j v hv => by
        rw [addr_add, cell_of e2]
        have hj : j < n := by
          rcases Nat.lt_or_ge j n with h | h
          · exact h
          · rw [List.getElem?_eq_none (by omega)] at hv; cases hv
        rw [Array.getElem?_toList, Array.getElem?_extract, if_pos (by omega)] at hv
        exact hv)
      rw [hlen, Array.toArray_toList] at this
      exact this
    simp [Instr.loadAt, Instr.sureAddr, loadVar, run_isAgg hd, hag.1, run_sizeOf hi, hag.2, hl]
  · rw [h12] at hj
    obtain ⟨u, e7, e8⟩ := e5 (offP e + j) (by omega)
    refine ⟨u, ?_, by rw [hagT, pg_rgN hj]; exact e8⟩
    rw [Array.getElem?_extract, if_pos (by omega)]
    exact e7

/-! ### a block more in the world -/
def St.new (s : St) (n : Nat) (o : Obj) : St := ⟨fun j => if j = n then some s.w.heap.size else s.sg j, s.K, s.w.alloc o⟩
theorem heap_alloc_lt {w : World} {o : Obj} {r : Nat} (h : r < w.heap.size) : (w.alloc o).heap[r]? = w.heap[r]? := by
  show (w.heap.push o)[r]? = _
  rw [Array.getElem?_push]
  simp [Nat.ne_of_lt h]
theorem heap_alloc_eq {w : World} {o : Obj} : (w.alloc o).heap[w.heap.size]? = some o := by
  show (w.heap.push o)[w.heap.size]? = _
  simp
theorem lt_of_heap {w : World} {r : Nat} {o : Obj} (h : w.heap[r]? = some o) : r < w.heap.size := (Array.getElem?_eq_some_iff.1 h).1
theorem Le.new (s : St) (n : Nat) (o : Obj) (hn : s.sg n = none) (hk : ∀ r, s.K r → r < s.w.heap.size) : Le s (s.new n o) :=
  ⟨fun j r h => by
    show (if j = n then _ else _) = _
    rw [if_neg (by rintro rfl; rw [hn] at h; cases h)]; exact h, fun _ h => h, fun r h => heap_alloc_lt (hk r h), fun r c el fz h => ⟨c, by
    show (s.w.alloc o).heap[r]? = _
    rw [heap_alloc_lt (lt_of_heap h)]; exact h, rfl⟩⟩
theorem frozen_alloc (w : World) (c : Array Value) (t : TypeId) (a : Addr) : (w.alloc (.cells c t)).frozen? a = w.frozen? a := Go.RowKit.frozen?_alloc_cells w c t a
theorem RelS.new {s : St} {S : Blk → Prop} (R : RelS P hole s S) {b : Blk} {cells : Array Value} (hn : s.sg b.nm = none) (hsz : b.n ≤ cells.size)
    (hv : ∀ i, i < b.n → ∃ v, cells[i]? = some v ∧ VR P hole s (pg b.c i) v) :
    RelS P hole (s.new b.nm (.cells cells b.el)) (fun c => c = b ∨ S c) ∧ Evo s (s.new b.nm (.cells cells b.el)) S (fun c => c = b ∨ S c) b.nm (b.nm + 1) := by
  have hle := Le.new s b.nm (.cells cells b.el) hn R.kin
  have hself : (s.new b.nm (.cells cells b.el)).sg b.nm = some s.w.heap.size := by show (if b.nm = b.nm then _ else _) = _; rw [if_pos rfl]
  have hne : ∀ c, S c → c.nm ≠ b.nm := by
    intro c hc e
    obtain ⟨r, _, e1, _⟩ := R.blk c hc
    rw [e, hn] at e1; cases e1
  refine ⟨⟨?_, ?_, fun r hr => Nat.lt_of_lt_of_le (R.kin r hr) (by show _ ≤ (s.w.alloc _).heap.size; simp)⟩, ⟨rfl, rfl, by show _ ≤ (s.w.alloc _).heap.size; simp, fun r hr _ => heap_alloc_lt hr, hle.shape,
    frozen_alloc _ _ _, hle.sg, fun j hj => ?_, fun _ h => h, fun _ h => .inl h, ?_⟩⟩
  · rintro c (rfl | hc)
    · exact ⟨_, cells, hself, heap_alloc_eq, hsz, fun hk => by have := R.kin _ hk; omega, fun i hi => let ⟨v, e1, e2⟩ := hv i hi; ⟨v, e1, e2.le hle⟩⟩
    · obtain ⟨r, cs, e1, e2, e3, e4, e5⟩ := R.blk c hc
      exact ⟨r, cs, hle.sg _ _ e1, by show (s.w.alloc _).heap[r]? = _; rw [heap_alloc_lt (lt_of_heap e2)]; exact e2, e3, e4, fun i hi => let ⟨v, e6, e7⟩ := e5 i hi; ⟨v, e6, e7.le hle⟩⟩
  · rintro c c' hc hc' e
    have key : ∀ d, S d → (s.new b.nm (.cells cells b.el)).sg d.nm ≠ some s.w.heap.size := by
      intro d hd e
      obtain ⟨r, cs, e1, e2, _⟩ := R.blk d hd
      rw [hle.sg _ _ e1] at e
      cases e
      have := lt_of_heap e2
      omega
    rcases hc with rfl | hc
    · rcases hc' with rfl | hc'
      · rfl
      · rw [hself] at e; exact absurd e.symm (key c' hc')
    · rcases hc' with rfl | hc'
      · rw [hself] at e; exact absurd e (key c hc)
      · obtain ⟨r, _, e1, _⟩ := R.blk c hc
        obtain ⟨r', _, e2, _⟩ := R.blk c' hc'
        rw [hle.sg _ _ e1, hle.sg _ _ e2] at e
        exact R.inj c c' hc hc' (by rw [e1, e2]; exact e)
  · have : ¬ (j ≠ b.nm) := fun h => hj (by show (if j = b.nm then _ else _) = _; rw [if_neg h])
    omega
  · rintro c (rfl | hc)
    · exact ⟨_, hself, .inl (Nat.le_refl _)⟩
    · obtain ⟨r, cs, e1, _⟩ := R.blk c hc
      exact ⟨r, hle.sg _ _ e1, .inr ⟨c, hc, e1⟩⟩
end
end Go.Proofs.YgvaqwGreat.Ev
