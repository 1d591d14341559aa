/- The evaluator's append and copy, against the model's. -/
import Derived.Test.YgvaqwGreatEvN
import Derived.Deep.AppendSrc
set_option exponentiation.threshold 400
namespace Go.Proofs.YgvaqwGreat.Ev
open Go
section
variable {P : Program} {hole : Nat}

/-! ### the cells of a slice's first elements -/
theorem cells_take {cells : Array Value} {o n : Nat} (j : Nat) : ((cells.toList.drop o).take n)[j]? = if j < n then cells[o + j]? else none := by
  rw [List.getElem?_take]
  split
  · rw [List.getElem?_drop]; simp
  · rfl
theorem leP_ok : ∀ (n x : Nat), leP n x < 2 ^ (320 * n) ∧ ∀ j, j < n → pg (leP n x) j = 5 + 32 * dig x j := by
  intro n
  induction n with
  | zero => intro x; exact ⟨by show (0 : Nat) < _; exact Nat.two_pow_pos _, fun j hj => by omega⟩
  | succ n ih =>
    intro x
    have e : leP (n + 1) x = (5 + 32 * (x % 256)) + cB * leP n (x / 256) := rfl
    have hlt : 5 + 32 * (x % 256) < cB := lt_cB (Nat.lt_trans (m := 2 ^ 20) (by omega) (by decide +kernel))
    obtain ⟨h1, h2⟩ := ih (x / 256)
    refine ⟨by rw [e]; exact cons_lt hlt h1, fun j hj => ?_⟩
    rw [e]
    cases j with
    | zero => rw [pg_cons_zero hlt]; simp [dig]
    | succ j =>
      rw [pg_cons_succ hlt, h2 j (by omega)]
      unfold dig
      rw [Nat.div_div_eq_div_mul, Nat.pow_succ, Nat.mul_comm 256]
theorem srcK_ok {m : Mem} {size n e : Nat} {k : Nat → R} {x : Nat × Mem} (h : srcK m size n e k = some x) (hm : MOK m) (hn : e = 13 → n = 0) :
    ∃ c, k c = some x ∧ c < 2 ^ (320 * (n * size)) ∧ ((e = 13 ∧ c = 0) ∨ (isSl e = true ∧ ∃ b ∈ m.hp, b.nm = nmOf e ∧ offS e + n * size ≤ b.n ∧ c = rgN b.c (offS e) (n * size)) ∨ e % 32 = 14) ∧
      ∀ (T : List Nat) (s : St) (S : Blk → Prop) u, RelS P hole s S → (∀ b ∈ m.hp, b.nm = nmOf e → S b) → VT P hole s T e u →
        ∃ cs : List Value, (∀ w : World, w.heap = s.w.heap → (Builtin.firstCells size n u).run P w = .ok cs.toArray w) ∧ cs.length = n * size ∧
          ∀ j, j < n * size → ∃ v, cs[j]? = some v ∧ VR P hole s (pg c j) v := by
  unfold srcK at h
  cases h1 : isSl e
  · rw [h1] at h
    cases h2 : Nat.beq e 13
    · rw [h2] at h
      obtain ⟨h14, h⟩ := chk_ok h
      obtain ⟨hs1, h⟩ := bc h
      obtain ⟨hle, hz⟩ := bc h
      rw [forceN_eq] at hz
      have hs1 : size = 1 := beq_t hs1
      have hle : n ≤ digits (e / 32) := ble_t hle
      subst hs1
      rw [Nat.mul_one]
      obtain ⟨k1, k2⟩ := leP_ok n (e / 32)
      refine ⟨_, hz, k1, .inr (.inr h14), fun T s S u _ _ hu => ?_⟩
      obtain ⟨_, b, c, cells, el, _, rfl, y2, y3, y4⟩ := VT.num hu h14
      refine ⟨(List.range n).map fun j => .int .u8 (dig (e / 32) j : Nat), fun w hw => ?_, by simp, fun j hj => ?_⟩
      · refine run_firstCells_some w 1 n _ _ _ _ (by simp) fun j v hv => ?_
        have hj : j < n := by
          rcases Nat.lt_or_ge j n with h | h
          · exact h
          · rw [List.getElem?_eq_none (by simpa using h)] at hv; cases hv
        rw [addr_add, cell_of (by rw [hw]; exact y3), Nat.zero_add, y4 j (by omega)]
        simpa [hj] using hv
      · refine ⟨.int .u8 (dig (e / 32) j : Nat), by simp [hj], ?_⟩
        rw [show pg (leP n (Nat.div e 32)) j = 5 + 32 * dig (e / 32) j from k2 j hj]
        exact VR.mk_byte (Nat.mod_lt _ (by omega))
    rw [h2] at h
    have hz := h
    have h2 : e = 13 := beq_t h2
    have hn0 := hn h2
    subst hn0
    refine ⟨0, hz, Nat.two_pow_pos _, .inl ⟨h2, rfl⟩, fun T s S u _ _ hu => ⟨[], fun w _ => ?_, by simp, fun j hj => by omega⟩⟩
    subst h2
    rw [VT.nilSl hu]
    exact run_firstCells_none w size 0 0 0
  · rw [h1] at h
    obtain ⟨b, h2, h3, h4, _⟩ := hget_ok h hm.nod
    obtain ⟨h5, hz⟩ := bc h4
    have h5 : offS e + n * size ≤ b.n := ble_t h5
    refine ⟨_, hz, rgN_lt _ _ _, .inr (.inl ⟨rfl, b, h2, h3, h5, rfl⟩), fun T s S u hR hS hu => ?_⟩
    obtain ⟨r, cells, e1, e2, e3, _, e5⟩ := hR.blk b (hS b h2 h3)
    obtain ⟨r', c, e6, rfl, _⟩ := VT.anySl hu h1
    rw [h3, e6] at e1
    cases e1
    have hl : ((cells.toList.drop (offS e)).take (n * size)).length = n * size := by simp; omega
    refine ⟨(cells.toList.drop (offS e)).take (n * size), fun w hw => ?_, hl, fun j hj => ?_⟩
    · refine run_firstCells_some w size n _ _ _ _ hl fun j v hv => ?_
      rw [cells_take] at hv
      rw [addr_add, cell_of (by rw [hw]; exact e2)]
      split at hv
      · exact hv
      · cases hv
    · obtain ⟨v, f1, f2⟩ := e5 (offS e + j) (by omega)
      refine ⟨v, by rw [cells_take, if_pos hj]; exact f1, ?_⟩
      show VR P hole s (pg (rgN b.c (offS e) (n * size)) j) v
      rw [pg_rgN hj]; exact f2

/-- blocks given up -/
structure DStep (m m' : Mem) : Prop where
  st : MStep m m'
  mem : ∀ c, c ∈ m'.hp → c ∈ m.hp
  nx : m'.nx = m.nx
  ag : m'.ag = m.ag
theorem DStep.refl {m : Mem} (h : MOK m) : DStep m m := ⟨MStep.refl h, fun _ h => h, rfl, rfl⟩
theorem DStep.trans {m m' m'' : Mem} (h : DStep m m') (k : DStep m' m'') : DStep m m'' := ⟨h.st.trans k.st, fun c hc => h.mem c (k.mem c hc), k.nx.trans h.nx, k.ag.trans h.ag⟩
theorem del_step {m : Mem} {b : Blk} (hm : MOK m) (hd : ∀ c, c ∈ hdel b.nm m.hp ↔ c ∈ m.hp ∧ c.nm ≠ b.nm) (hn : Nod (hdel b.nm m.hp)) :
    DStep m ⟨hdel b.nm m.hp, m.nx, m.ag, m.na, m.wb, tellW m b.nm⟩ := by
  refine ⟨⟨⟨fun c hc => hm.nmb c ((hd c).1 hc).1, hn, hm.na, hm.wb⟩, Nat.le_refl _, Suf.refl _, rfl, ?_⟩, fun c hc => ((hd c).1 hc).1, rfl, rfl⟩
  obtain ⟨l, h1, h2⟩ := tellW_ok m b.nm
  refine ⟨l, h1, fun c hc hl => ?_⟩
  show c ∈ m.hp ↔ c ∈ hdel b.nm m.hp
  rw [hd]
  refine ⟨fun h => ⟨h, fun e => hl (e ▸ h2 (e ▸ hc))⟩, fun h => h.1⟩
theorem dieB_ok {m : Mem} {e : Nat} {k : Mem → R} {x : Nat × Mem} (h : dieB m e k = some x) (hm : MOK m) : ∃ m', k m' = some x ∧ DStep m m' := by
  unfold dieB at h
  cases h1 : isSl e
  · rw [h1] at h; exact ⟨m, h, DStep.refl hm⟩
  · rw [h1] at h
    obtain ⟨b, h2, h3, h4, h5, h6⟩ := hget_ok h hm.nod
    cases h7 : Nat.beq b.kd 2
    · rw [h7] at h4; exact ⟨m, h4, DStep.refl hm⟩
    · rw [h7] at h4
      rw [← h3] at h5 h6
      rw [cutK_eq] at h4
      exact ⟨_, h4, del_step hm h5 h6⟩

theorem newApp_ok {elem n size c : Nat} {m : Mem} {k : KV} {x : Nat × Mem} (h : newApp elem n size c m k = some x) (hm : MOK m) :
    ∃ m', k (mkS 18 m.nx 0 n n) m' = some x ∧ MStep m m' ∧ mkS 18 m.nx 0 n n < cB ∧ n ≤ 4294967295 ∧ m.nx < 4294967296 ∧ m'.nx = m.nx + 1 ∧ m'.ag = m.ag ∧ m'.hp = ⟨m.nx, n * size, c, elem, 3⟩ :: m.hp := by
  obtain ⟨_, h1, _, h⟩ := okS_ok h
  obtain ⟨m', h2, h3, h4, h5, h6, h7, _⟩ := newB_ok h hm
  exact ⟨m', h2, h3, mkS_lt _ _ _ _ _ (by omega) h4 (by omega) h1 h1, h1, h4, h5, h6, h7⟩
theorem VT.mk_loose {s : St} {T : List Nat} {nm n r c : Nat} {cells : Array Value} {el : TypeId} (h1 : nm < 4294967296) (h3 : n ≤ 4294967295) (hr : s.sg nm = some r) (hc : n ≤ c)
    (hh : s.w.heap[r]? = some (.cells cells el (0, 0))) (hs : c * P.cellsOf el ≤ cells.size) : VT P hole s T (mkS 18 nm 0 n n) (.slice (some ⟨r, 0, none⟩) n c) := by
  refine VT.of_VR ?_
  unfold VR
  rw [mkS_tag _ _ _ _ _ (by omega)]
  refine ⟨r, c, cells, el, by rw [mkS_nm _ _ _ _ _ (by omega) h1]; exact hr, ?_, ?_, hh, ?_⟩
  · rw [mkS_off _ _ _ _ _ (by omega) h1 (by omega), mkS_len _ _ _ _ _ (by omega) h1 (by omega) h3]
  · rw [mkS_cap _ _ _ _ _ (by omega) h1 (by omega) h3]; exact hc
  · rw [mkS_off _ _ _ _ _ (by omega) h1 (by omega)]; omega

/-- a row that an append made -/
theorem grow_ok {m m' : Mem} {s : St} {T : List Nat} {n size c cap : Nat} {elem : TypeId} {cells : Array Value} (R : Rel P hole s m) (hs : s.sg m.nx = none) (hnx : m.nx < 4294967296) (hn : n ≤ 4294967295)
    (hm' : m'.hp = ⟨m.nx, n * size, c, elem, 3⟩ :: m.hp) (hnx' : m'.nx = m.nx + 1) (hcell : P.cellsOf elem = size) (hsz : cells.size = cap * size) (hcap : n ≤ cap)
    (hv : ∀ j, j < n * size → ∃ v, cells[j]? = some v ∧ VR P hole s (pg c j) v) :
    ∃ t : St, t.w = s.w.drew.alloc (.cells cells elem) ∧ Rel P hole t m' ∧ VT P hole t T (mkS 18 m.nx 0 n n) (.slice (some ⟨s.w.heap.size, 0, none⟩) n cap) ∧ Evo s t (· ∈ m.hp) (· ∈ m'.hp) m.nx m'.nx := by
  have hnc : n * size ≤ cap * size := Nat.mul_le_mul_right _ hcap
  obtain ⟨h1, h2⟩ := RelS.new (b := ⟨m.nx, n * size, c, elem, 3⟩) (cells := cells) R.drew hs (by show n * size ≤ cells.size; omega) (fun i hi => let ⟨v, e1, e2⟩ := hv i hi; ⟨v, e1, e2.le (Le.drew s)⟩)
  have hmem : ∀ d, d ∈ m'.hp ↔ d = ⟨m.nx, n * size, c, elem, 3⟩ ∨ d ∈ m.hp := fun d => by rw [hm', List.mem_cons]
  refine ⟨_, rfl, h1.congr hmem, ?_, ?_⟩
  · refine VT.mk_loose (r := s.w.heap.size) (cells := cells) (el := elem) hnx hn (new_sg _ _ _) hcap heap_alloc_eq ?_
    rw [hcell, hsz]
    exact Nat.le_refl _
  · rw [hnx']
    exact ((Evo.drew s R (n := m.nx)).trans h2 (Nat.le_refl _) (Nat.le_succ _)).congr (fun _ => Iff.rfl) (fun d hd => (hmem d).1 hd)

theorem run_app_in {t ty e : TypeId} {i : TypeInfo} (ht : P.underlying t = some (.slice e)) (hi : P.info? e = some i) {w : World} {g off sLen sCap n : Nat} {cur : Array Value} {el : TypeId} (hg : w.heap[g]? = some (.cells cur el (0, 0)))
    {a : Option Addr} {c : Nat} {news : List Value} (hf : (Builtin.firstCells i.size n (.slice a n c)).run P w = .ok news.toArray w) (h1 : ∀ u ∈ news, u.oneCell' = true) (hroom : sLen + n ≤ sCap)
    (hfit : off + sLen * i.size + news.length ≤ cur.size) :
    (Builtin.append_ #[t, t] ty #[.slice (some ⟨g, off, none⟩) sLen sCap, .slice a n c]).run P w =
      .ok (.slice (some ⟨g, off, none⟩) (sLen + n) sCap) (w.setRow g (cur.toList.take (off + sLen * i.size) ++ news ++ cur.toList.drop (off + sLen * i.size + news.length)).toArray) := by
  have hst := run_storeCells_at P g (off + sLen * i.size) el news 0 cur w hg (by simpa using hfit) h1
  simp only [Nat.add_zero] at hst
  simp [Builtin.append_, run_underlying ht, sizeOf, typeInfo, hi, Builtin.lenOf, hroom, hf, Addr.add_lit, hst]

theorem src_of {t e : TypeId} (ht : P.underlying t = some (.slice e)) {s : St} {size n : Nat} {a : Option Addr} {c : Nat} {cs : List Value} {p : Nat}
    (h1 : ∀ w : World, w.heap = s.w.heap → (Builtin.firstCells size n (.slice a n c)).run P w = .ok cs.toArray w) (h2 : cs.length = n * size) (h3 : ∀ j, j < n * size → ∃ v, cs[j]? = some v ∧ VR P hole s (pg p j) v) :
    Src P size t (.slice a n c) n cs s.w := ⟨.inl ⟨e, ht⟩, fun _ => rfl, h1 _ rfl, h1 _ rfl, h2, VR.list_one h2 h3⟩

theorem zeroCells_size {z : Value} {w n : Nat} (h : z.cells.size = w) : (Builtin.zeroCells z.cells n).size = n * w := by rw [size_zeroCells, h]

/-- the rows put together -/
theorem cat_ok {s : St} {olds news : List Value} {z : Array Value} {a b p q : Nat} (h1 : olds.length = a) (h2 : news.length = b) (hp : p < 2 ^ (320 * a))
    (h3 : ∀ j, j < a → ∃ v, olds[j]? = some v ∧ VR P hole s (pg p j) v) (h4 : ∀ j, j < b → ∃ v, news[j]? = some v ∧ VR P hole s (pg q j) v) :
    ∀ j, j < a + b → ∃ v, ((olds ++ news).toArray ++ z)[j]? = some v ∧ VR P hole s (pg (p + q <<< (320 * a)) j) v := by
  intro j hj
  rw [pg_append hp, Array.getElem?_append_left (by simp; omega)]
  simp only [List.getElem?_toArray]
  by_cases hja : j < a
  · rw [if_pos hja, List.getElem?_append_left (by omega)]
    exact h3 j hja
  · rw [if_neg hja, List.getElem?_append_right (by omega), h1]
    exact h4 (j - a) (by omega)

/-- what an append needs of its type -/
structure AppT (P : Program) (t e : TypeId) (w : Nat) (i : TypeInfo) (z : Value) : Prop where
  ht : P.underlying t = some (.slice e)
  hi : P.info? e = some i
  hz : i.zero = some z
  hsz : i.size = w
  hzs : z.cells.size = w
  hb : i.bytes ≤ 32768
theorem AppT.cell {t e : TypeId} {w : Nat} {i : TypeInfo} {z : Value} (h : AppT P t e w i z) : P.cellsOf e = w := by simp [Program.cellsOf, h.hi, h.hsz]

/-- what is asked of an append that was run -/
def AppOK (P : Program) (hole : Nat) (t : TypeId) (e e' : Nat) (m : Mem) (k : KV) (x : Nat × Mem) : Prop :=
  ∃ v m', k v m' = some x ∧ MStep m m' ∧ v < cB ∧ ∀ (ty : TypeId) (T : List Nat) (s : St) (u u' : Value), Suf m'.ag T → VT P hole s T e u → VT P hole s T e' u' → Rel P hole s m → Fresh s.sg m.nx m'.nx →
      ∃ v' s', (Builtin.append_ #[t, t] ty #[u, u']).run P s.w = .ok v' s'.w ∧ Rel P hole s' m' ∧ VT P hole s' T v v' ∧ Evo s s' (· ∈ m.hp) (· ∈ m'.hp) m.nx m'.nx

theorem Evo.die {m m1 : Mem} {s : St} (R : Rel P hole s m) (h : DStep m m1) : Evo s s (· ∈ m.hp) (· ∈ m1.hp) m.nx m1.nx := by
  rw [h.nx]; exact Evo.same R h.mem

/-- an append that grows -/
theorem app_grow {t e : TypeId} {w : Nat} {i : TypeInfo} {z : Value} (A : AppT P t e w i z) {m m1 m' : Mem} {s : St} {T : List Nat} (hd : DStep m m1) (R : Rel P hole s m) (hfr : Fresh s.sg m.nx m'.nx)
    {base a : Option Addr} {sLen sCap n c : Nat} {olds news : List Value} {p q : Nat} (hp : p < 2 ^ (320 * (sLen * w)))
    (ho : ∀ W : World, W.heap = s.w.heap → (Builtin.firstCells w sLen (.slice base sLen sCap)).run P W = .ok olds.toArray W) (hol : olds.length = sLen * w)
    (hov : ∀ j, j < sLen * w → ∃ v, olds[j]? = some v ∧ VR P hole s (pg p j) v)
    (hn : ∀ W : World, W.heap = s.w.heap → (Builtin.firstCells w n (.slice a n c)).run P W = .ok news.toArray W) (hnl : news.length = n * w)
    (hnv : ∀ j, j < n * w → ∃ v, news[j]? = some v ∧ VR P hole s (pg q j) v)
    (hg : sCap < sLen + n) (hle : sLen + n ≤ 4294967295) (hnx : m1.nx < 4294967296) (hnx' : m'.nx = m1.nx + 1) (hm' : m'.hp = ⟨m1.nx, (sLen + n) * w, p + q <<< (320 * (sLen * w)), e, 3⟩ :: m1.hp) (ty : TypeId) :
    ∃ v' s', (Builtin.append_ #[t, t] ty #[.slice base sLen sCap, .slice a n c]).run P s.w = .ok v' s'.w ∧ Rel P hole s' m' ∧ VT P hole s' T (mkS 18 m1.nx 0 (sLen + n) (sLen + n)) v' ∧ Evo s s' (· ∈ m.hp) (· ∈ m'.hp) m.nx m'.nx := by
  have hsrc := src_of (hole := hole) A.ht hn hnl hnv
  have hfit : Builtin.nextslicecap (sLen + n) sCap * i.bytes ≤ 281474976710656 := growslice_fits hg (by
    have := Nat.mul_le_mul hle A.hb
    omega)
  have ho' := ho s.w.drew rfl
  rw [← A.hsz] at ho' hsrc
  have hrun := run_append_grow_src (P := P) s.w t t ty e i z A.ht A.hi A.hz base sLen sCap olds ho' _ n news hsrc hg (by omega) hfit
  have hge := grownCap_ge s.w (sLen + n) sCap e
  obtain ⟨s', g1, g2, g3, g4⟩ := grow_ok (P := P) (hole := hole) (T := T) (n := sLen + n) (size := w) (cap := grownCap s.w (sLen + n) sCap e) (R.sub hd.mem) (hfr m1.nx (by rw [hd.nx]; exact Nat.le_refl _) (by omega)) hnx hle hm' hnx' A.cell
    (cells := (olds ++ news).toArray ++ Builtin.zeroCells z.cells (grownCap s.w (sLen + n) sCap e - (sLen + n))) (by
      rw [Array.size_append, zeroCells_size A.hzs, List.size_toArray, List.length_append, hol, hnl, ← Nat.add_mul, ← Nat.add_mul]
      congr 1
      omega) hge (by
      rw [Nat.add_mul]
      exact cat_ok hol hnl hp hov hnv)
  refine ⟨_, s', by rw [hrun, g1], g2, g3, ?_⟩
  exact (Evo.die R hd).trans g4 (by rw [hd.nx]; exact Nat.le_refl _) (by omega)

theorem appNew_eq (size elem s xn old new : Nat) (m : Mem) (k : KV) : appNew size elem s xn old new m k = newApp elem (lenS s + xn) size (old + new <<< (320 * (lenS s * size))) m k := rfl

theorem appGrow_ok {t e : TypeId} {w : Nat} {i : TypeInfo} {z : Value} (A : AppT P t e w i z) {d y xn new : Nat} {m : Mem} {k : KV} {x : Nat × Mem} (h : appGrow w e d y xn new m k = some x) (hm : MOK m)
    (hd12 : d % 32 = 12) (hcap : capS d < lenS d + xn)
    (hnew : ∀ (T : List Nat) (s : St) u, Rel P hole s m → VT P hole s T y u → ∃ a c, u = .slice a xn c ∧ ∃ cs : List Value, (∀ W : World, W.heap = s.w.heap → (Builtin.firstCells w xn u).run P W = .ok cs.toArray W) ∧ cs.length = xn * w ∧
          ∀ j, j < xn * w → ∃ v, cs[j]? = some v ∧ VR P hole s (pg new j) v) : AppOK P hole t d y m k x := by
  obtain ⟨_, h⟩ := bcn h
  obtain ⟨old, h, hlt, _, hold⟩ := srcK_ok (P := P) (hole := hole) h hm (by rintro rfl; exact absurd hd12 (by decide))
  obtain ⟨m1, h, hdie⟩ := dieB_ok h hm
  rw [appNew_eq] at h
  obtain ⟨m', h1, h2, h3, h4, h5, h6, h7, h8⟩ := newApp_ok h hdie.st.ok
  refine ⟨_, m', h1, hdie.st.trans h2, h3, fun ty T s u u' hT hu hu' R hfr => ?_⟩
  obtain ⟨olds, o1, o2, o3⟩ := hold T s _ u R (fun b hb _ => hb) hu
  obtain ⟨a, c, rfl, news, n1, n2, n3⟩ := hnew T s u' R hu'
  obtain ⟨r, hr, rfl⟩ := VT.sl hu hd12
  exact app_grow A hdie R hfr hlt o1 o2 o3 n1 n2 n3 hcap h4 h5 h6 h8 ty

theorem appIn_ok {t e : TypeId} {w : Nat} {i : TypeInfo} {z : Value} (A : AppT P t e w i z) {d y xn new : Nat} {m : Mem} {k : KV} {x : Nat × Mem} (h : appIn w d y xn new m k = some x) (hm : MOK m)
    (hd12 : d % 32 = 12) (hcap : lenS d + xn ≤ capS d) (hlt : new < 2 ^ (320 * (xn * w)))
    (hnew : ∀ (T : List Nat) (s : St) u, Rel P hole s m → VT P hole s T y u → ∃ a c, u = .slice a xn c ∧ ∃ cs : List Value, (∀ W : World, W.heap = s.w.heap → (Builtin.firstCells w xn u).run P W = .ok cs.toArray W) ∧ cs.length = xn * w ∧
          ∀ j, j < xn * w → ∃ v, cs[j]? = some v ∧ VR P hole s (pg new j) v) : AppOK P hole t d y m k x := by
  obtain ⟨m1, h, hdie⟩ := dieB_ok h hm
  obtain ⟨b, m2, h1, h2, h3, h4, h5, h6⟩ := atB_ok h hdie.st.ok
  obtain ⟨h7, h3⟩ := bc h3
  obtain ⟨q1, q2, q3, h3⟩ := okS_ok h3
  have h7 : offS d + (lenS d + xn) * w ≤ b.n := ble_t h7
  rw [Nat.add_mul] at h7
  obtain ⟨m', h9, h10, h11, h12, h13⟩ := setB_ok h3 (h4.ok hdie.st.ok) h6
  refine ⟨_, m', h9, (hdie.st.trans (h4.step hdie.st.ok)).trans h10, mkS_lt _ _ _ _ _ (by omega) (nmOf_lt d) q1 q2 q3, fun ty T s u u' hT hu hu' R hfr => ?_⟩
  obtain ⟨a, c, rfl, news, n1, n2, n3⟩ := hnew T s u' R hu'
  obtain ⟨r, hr, rfl⟩ := VT.sl hu hd12
  have R2 : Rel P hole s m2 := (R.sub hdie.mem).congr h4.mem
  obtain ⟨r', cells, t', f1, f2, f3, f4, f5, f6, f7, f8⟩ := write_ok R2 ((h4.mem b).2 h1) (off := offS d + lenS d * w) (k := xn * w) (p := new) (by omega) hlt rfl (vs := news) n2 n3
  rw [h2, hr] at f1
  cases f1
  refine ⟨.slice (some ⟨r, offS d, none⟩) (lenS d + xn) (capS d), t', ?_, f6.congr h13, ?_, ?_⟩
  · rw [f4]
    have n1' := n1 s.w rfl
    rw [← A.hsz] at n1' n2 f3 ⊢
    exact run_app_in A.ht A.hi f2 n1' (VR.list_one n2 (by rw [A.hsz]; exact n3)) hcap (by rw [n2]; exact f3)
  · exact VT.mk_sl (nmOf_lt d) q1 q2 (by rw [f5]; exact hr)
  · have e1 := f7.congr (Q := (· ∈ m1.hp)) (Q' := (· ∈ m'.hp)) (fun c => (h4.mem c).symm) (fun d hd => (h13 d).1 hd)
    have e2 := (Evo.die R hdie)
    rw [h11, h4.nx, hdie.nx]
    rw [h4.nx, hdie.nx] at e1
    rw [hdie.nx] at e2
    exact e2.trans e1 (Nat.le_refl _) (Nat.le_refl _)
end
end Go.Proofs.YgvaqwGreat.Ev
