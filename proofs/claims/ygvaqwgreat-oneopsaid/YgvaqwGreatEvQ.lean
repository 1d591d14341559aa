/- The evaluator's append to a slice of unknown capacity, append whole, copy, and conversion to a string, against the model's. -/
import Derived.Test.YgvaqwGreatEvP
set_option exponentiation.threshold 400
namespace Go.Proofs.YgvaqwGreat.Ev
open Go
section
variable {P : Program} {hole : Nat}

/-- what is read of an append's second operand -/
def NewOK (P : Program) (hole : Nat) (w y xn new : Nat) (m : Mem) : Prop :=
  ∀ (T : List Nat) (s : St) u, Rel P hole s m → VT P hole s T y u → ∃ a c, u = .slice a xn c ∧ ∃ cs : List Value, (∀ W : World, W.heap = s.w.heap → (Builtin.firstCells w xn u).run P W = .ok cs.toArray W) ∧ cs.length = xn * w ∧
          ∀ j, j < xn * w → ∃ v, cs[j]? = some v ∧ VR P hole s (pg new j) v

theorem appLoose_ok {t e : TypeId} {w : Nat} {i : TypeInfo} {z : Value} (A : AppT P t e w i z) {d y xn new : Nat} {m : Mem} {k : KV} {x : Nat × Mem} (h : appLoose w e d y xn new m k = some x) (hm : MOK m)
    (hd18 : d % 32 = 18) (hnew : NewOK P hole w y xn new m) : AppOK P hole t d y m k x := by
  obtain ⟨_, h⟩ := bcn h
  obtain ⟨h0, h⟩ := bc h
  have h0 : offS d = 0 := beq_t h0
  obtain ⟨old, h, hold, hbl, ho⟩ := srcK_ok (P := P) (hole := hole) h hm (by rintro rfl; exact absurd hd18 (by decide))
  obtain ⟨m1, h, hdie⟩ := dieB_ok h hm
  obtain ⟨b, h1, h2, h, h3, h4⟩ := hget_ok h hdie.st.ok.nod
  obtain ⟨h5, h⟩ := bc h
  have h5 : b.el = e := beq_t h5
  rw [← h2] at h3 h4
  have hdel := del_step hdie.st.ok h3 h4
  have hd2 := hdie.trans hdel
  rw [cutK_eq, appNew_eq] at h
  obtain ⟨m', g1, g2, g3, g4, g5, g6, g7, g8⟩ := newApp_ok h hdel.st.ok
  refine ⟨_, m', g1, hd2.st.trans g2, g3, fun ty T s u u' hT hu hu' R hfr => ?_⟩
  obtain ⟨olds, o1, o2, o3⟩ := ho T s _ u R (fun b hb _ => hb) hu
  obtain ⟨a, c, rfl, news, n1, n2, n3⟩ := hnew T s u' R hu'
  obtain ⟨r, cap, cells, el, y1, rfl, y3, y4, y5⟩ := VT.loose hu hd18
  rcases Nat.lt_or_ge cap (lenS d + xn) with hc | hc
  · exact app_grow A hd2 R hfr hold o1 o2 o3 n1 n2 n3 hc g4 g5 g6 g8 ty
  · -- in place: the block takes a new name
    obtain ⟨r', cells', f1, f2, f3, f4, f5⟩ := R.blk b (hdie.mem b h1)
    rw [h2, y1] at f1
    cases f1
    rw [y4] at f2
    cases f2
    rw [h5, A.cell, h0] at y5
    have hcw : (lenS d + xn) * w ≤ cap * w := Nat.mul_le_mul_right _ hc
    rw [Nat.add_mul] at hcw
    have hrow := row_get cells news (lenS d * w) (by omega)
    have hsgn : s.sg m1.nx = none := hfr m1.nx (by rw [hdie.nx]; exact Nat.le_refl _) (by rw [g6]; exact Nat.lt_succ_self _)
    obtain ⟨q1, q2, q3⟩ := RelS.set (R.sub hdie.mem) (b := b) (b' := ⟨m1.nx, (lenS d + xn) * w, old + new <<< (320 * (lenS d * w)), e, 3⟩) h1 (r := r) (cells := cells)
      (cells' := (cells.toList.take (lenS d * w) ++ news ++ cells.toList.drop (lenS d * w + news.length)).toArray) (by rw [h2]; exact y1) y4 hrow.1 h5.symm (by show (lenS d + xn) * w ≤ _; rw [Nat.add_mul]; omega)
      (fun j hj => by
        have hj : j < (lenS d + xn) * w := hj
        rw [Nat.add_mul] at hj
        show ∃ v, _ ∧ VR P hole s (pg (old + new <<< (320 * (lenS d * w))) j) v
        rw [hrow.2 j, pg_append hold, n2]
        by_cases hja : j < lenS d * w
        · rw [if_neg (by omega), if_pos hja]
          obtain ⟨v, e1, e2⟩ := o3 j hja
          obtain ⟨olds', p1, p2⟩ := ho T s _ _ R (fun b hb _ => hb) hu
          have hrd := o1 s.w rfl
          have hj' : j < cells.size := by omega
          refine ⟨cells[j], by rw [Array.getElem?_eq_getElem hj'], ?_⟩
          rcases hbl with ⟨h13, _⟩ | ⟨_, b0, hb0, hb1, hb2, hb3⟩ | h14
          · rw [h13] at hd18; exact absurd hd18 (by decide)
          · have : b0 = b := hm.uniq hb0 (hdie.mem b h1) (by rw [hb1, h2])
            subst this
            rw [h0] at hb2
            obtain ⟨v', k1, k2⟩ := f5 j (by omega)
            rw [Array.getElem?_eq_getElem hj'] at k1
            cases k1
            rw [hb3, h0, pg_rgN hja]
            simpa using k2
          · omega
        · rw [if_pos (by omega), if_neg hja]
          exact n3 (j - lenS d * w) (by omega))
      (sg' := fun j => if j = m1.nx then some r else s.sg j) (lo := m.nx) (hi := m'.nx)
      (fun j q hq => by show (if j = m1.nx then _ else _) = _; rw [if_neg (by rintro rfl; rw [hsgn] at hq; cases hq)]; exact hq)
      (by show (if m1.nx = m1.nx then _ else _) = _; rw [if_pos rfl])
      (fun j hj => by
        have : j = m1.nx := by
          rcases Nat.decEq j m1.nx with h | h
          · exact absurd (by show (if j = m1.nx then _ else _) = _; rw [if_neg h]) hj
          · exact h
        have e1 : m'.nx = m1.nx + 1 := g6
        have e2 := hdie.nx
        omega) rfl
    have hmem : ∀ c, c ∈ m'.hp → c = ⟨m1.nx, (lenS d + xn) * w, old + new <<< (320 * (lenS d * w)), e, 3⟩ ∨ (c ∈ m1.hp ∧ c ≠ b) := by
      intro c hc
      rw [g8, List.mem_cons] at hc
      rcases hc with hc | hc
      · exact .inl hc
      · have := (h3 c).1 hc
        exact .inr ⟨this.1, fun e => this.2 (by rw [e])⟩
    refine ⟨.slice (some ⟨r, 0, none⟩) (lenS d + xn) cap, _, ?_, q1.sub hmem, ?_, ?_⟩
    · have n1' := n1 s.w rfl
      have hfit : 0 + lenS d * w + news.length ≤ cells.size := by omega
      have hin := run_app_in (P := P) (t := t) (ty := ty) (off := 0) (sLen := lenS d) (sCap := cap) A.ht A.hi y4 (by rw [A.hsz]; exact n1') (VR.list_one n2 n3) hc (by rw [A.hsz]; exact hfit)
      rw [A.hsz, Nat.zero_add] at hin
      rw [h0]
      exact hin
    · refine VT.mk_loose (r := r) g5 g4 (by show (if m1.nx = m1.nx then _ else _) = _; rw [if_pos rfl]) hc (setRow_heap s.w r cells _ b.el (0, 0) y4) ?_
      rw [h5, A.cell, hrow.1]
      omega
    · refine ⟨q2.os, q2.out, q2.size, fun r hr hS => q2.keep r hr (fun c hc => hS c (hdie.mem c hc)), q2.shape, q2.froz, q2.sg, q2.sgn, q2.kk, q2.kn, fun c hc => ?_⟩
      obtain ⟨r1, k1, k2⟩ := q2.new c (hmem c hc)
      exact ⟨r1, k1, k2.elim .inl fun ⟨c', k3, k4⟩ => .inr ⟨c', hdie.mem c' k3, k4⟩⟩

theorem appK_ok {t e : TypeId} {w : Nat} {i : TypeInfo} {z : Value} (A : AppT P t e w i z) {d y : Nat} {m : Mem} {k : KV} {x : Nat × Mem} (h : appK w e d y m k = some x) (hm : MOK m) : AppOK P hole t d y m k x := by
  obtain ⟨xn, h, hxn⟩ := lenOf_ok h
  obtain ⟨new, h, hlt, _, hsrc⟩ := srcK_ok (P := P) (hole := hole) h hm (by
    rintro rfl
    rcases hxn with ⟨h1, _⟩ | ⟨_, h1⟩ | ⟨h1, _⟩
    · exact absurd h1 (by decide)
    · exact h1
    · omega)
  have hnew : NewOK P hole w y xn new m := fun T s u R hu => by
    obtain ⟨cs, c1, c2, c3⟩ := hsrc T s _ u R (fun b hb _ => hb) hu
    obtain ⟨a, c, rfl⟩ := lenOf_sl hu hxn
    exact ⟨a, c, rfl, cs, c1, c2, c3⟩
  cases h13 : Nat.beq d 13
  · rw [h13] at h
    cases h12 : Nat.beq (Nat.mod d 32) 12
    · rw [h12] at h
      obtain ⟨h18, h⟩ := chk_ok h
      exact appLoose_ok A h hm h18 hnew
    · rw [h12] at h
      have h12 : d % 32 = 12 := beq_t h12
      cases hc : Nat.ble (Nat.add (lenS d) xn) (capS d)
      · rw [hc] at h
        exact appGrow_ok A h hm h12 (ble_f hc) hnew
      · rw [hc] at h
        exact appIn_ok A h hm h12 (ble_t hc) hlt hnew
  · rw [h13] at h
    have h13 : d = 13 := beq_t h13
    subst h13
    cases h0 : Nat.beq xn 0
    · rw [h0] at h
      have h0 := beq_f h0
      obtain ⟨m1, h, hdie⟩ := dieB_ok h hm
      obtain ⟨m', g1, g2, g3, g4, g5, g6, g7, g8⟩ := newApp_ok h hdie.st.ok
      refine ⟨_, m', g1, hdie.st.trans g2, g3, fun ty T s u u' hT hu hu' R hfr => ?_⟩
      obtain ⟨a, c, rfl, news, n1, n2, n3⟩ := hnew T s u' R hu'
      have hu := VT.nilSl hu
      subst hu
      have := app_grow (P := P) (hole := hole) A hdie R hfr (T := T) (base := none) (a := a) (sLen := 0) (sCap := 0) (n := xn) (c := c) (olds := []) (news := news) (p := 0) (q := new) (Nat.two_pow_pos _)
        (fun W _ => run_firstCells_none W w 0 0 0) (by simp) (fun j hj => by omega) n1 n2 n3 (by omega) (by omega) g5 g6 (by
          rw [g8]
          simp) ty
      simpa using this
    · rw [h0] at h
      have h0 := beq_t h0
      subst h0
      refine ⟨13, m, h, MStep.refl hm, nil_lt, fun ty T s u u' hT hu hu' R hfr => ?_⟩
      obtain ⟨a, c, rfl, news, n1, n2, n3⟩ := hnew T s u' R hu'
      have hu := VT.nilSl hu
      subst hu
      have n1' := n1 s.w rfl
      refine ⟨.slice none 0 0, s, ?_, R, VT.mk_nil, Evo.same R fun _ h => h⟩
      rw [← A.hsz] at n1'
      simp [Builtin.append_, run_underlying A.ht, sizeOf, typeInfo, A.hi, Builtin.lenOf, n1']

theorem append_ok {t e ty : TypeId} {N w : Nat} {i : TypeInfo} {z : Value} (A : AppT P t e w i z) (y y' : Operand) : KEff P hole N (bop (sel N y) (sel N y') (appK w e)) (fun a => Builtin.append_ #[t, t] ty #[a.eval y, a.eval y']) := by
  intro call E m k x hm hx
  obtain ⟨v, m', h1, h2, h3, h4⟩ := appK_ok (hole := hole) A hx hm
  exact ⟨v, m', h1, h2, h3, fun T s a hT ha R hfr => h4 ty T s _ _ hT (ha y) (ha y') R hfr⟩

/-! ### copy -/
theorem run_copy_gen {t e ty : TypeId} {i : TypeInfo} (ht : P.underlying t = some (.slice e)) (hi : P.info? e = some i) {w : World} {g off dLen dCap sLen n c tx : Nat} {cur : Array Value} {el : TypeId} {a : Option Addr} (hg : w.heap[g]? = some (.cells cur el (0, 0)))
    (hn : n = min sLen dLen) {news : List Value} (hf : (Builtin.firstCells i.size n (.slice a sLen c)).run P w = .ok news.toArray w) (h1 : ∀ u ∈ news, u.oneCell' = true) (hfit : off + news.length ≤ cur.size) :
    (Builtin.copy_ #[t, tx] ty #[.slice (some ⟨g, off, none⟩) dLen dCap, .slice a sLen c]).run P w =
      .ok (.int .i64 n) (w.setRow g (cur.toList.take off ++ news ++ cur.toList.drop (off + news.length)).toArray) := by
  have hst := run_storeCells_at P g off el news 0 cur w hg (by simpa using hfit) h1
  simp only [Nat.add_zero] at hst
  have hn' : Nat.min sLen dLen = n := hn.symm
  simp [Builtin.copy_, run_underlying ht, sizeOf, typeInfo, hi, Builtin.lenOf, hf, hst, goInt, hn']
theorem run_copy_gen0 {t e ty : TypeId} {i : TypeInfo} (ht : P.underlying t = some (.slice e)) (hi : P.info? e = some i) {w : World} {sLen c tx : Nat} {a : Option Addr}
    {news : List Value} (hf : (Builtin.firstCells i.size 0 (.slice a sLen c)).run P w = .ok news.toArray w) :
    (Builtin.copy_ #[t, tx] ty #[.slice none 0 0, .slice a sLen c]).run P w = .ok (.int .i64 0) w := by
  simp [Builtin.copy_, run_underlying ht, sizeOf, typeInfo, hi, Builtin.lenOf, hf, goInt]
theorem copy_ok {t e ty tx : TypeId} {N w : Nat} (ht : P.underlying t = some (.slice e)) (hc : cl P e = some w) (y y' : Operand) :
    KEff P hole N (bop (sel N y) (sel N y') (copyK w)) (fun a => Builtin.copy_ #[t, tx] ty #[a.eval y, a.eval y']) := by
  intro call E m k x hm hx
  obtain ⟨_, i, hi, hsz⟩ := cl_ok hc
  have hx : copyK w ((sel N y).fn E) ((sel N y').fn E) m k = some x := hx
  generalize hd : (sel N y).fn E = d at hx
  generalize hsx : (sel N y').fn E = sx at hx
  obtain ⟨dn, hx, hdn⟩ := lenOf_ok hx
  obtain ⟨xn, hx, hxn⟩ := lenOf_ok hx
  rw [forceN_eq] at hx
  have hmin : (Nat.casesOn (Nat.sub xn dn) xn (fun _ => dn) : Nat) = min xn dn := by
    cases h : Nat.sub xn dn
    · have : xn - dn = 0 := h
      show xn = _
      omega
    · have : xn - dn ≠ 0 := by rw [show xn - dn = Nat.sub xn dn from rfl, h]; omega
      show dn = _
      omega
  rw [hmin] at hx
  obtain ⟨new, hx, hlt, _, hsrc⟩ := srcK_ok (P := P) (hole := hole) hx hm (by
    rintro rfl
    rcases hxn with ⟨h1, _⟩ | ⟨_, h1⟩ | ⟨h1, _⟩
    · exact absurd h1 (by decide)
    · omega
    · omega)
  have hdb : dn < 4294967296 := by
    rcases hdn with ⟨_, rfl⟩ | ⟨_, rfl⟩ | ⟨_, rfl⟩
    · exact lenS_lt d
    · omega
    · have := digits_small (n := d / 32) (Nat.lt_of_le_of_lt (Nat.div_le_self d 32) (by rw [← hd]; exact sel_lt N y E))
      omega
  have hmb : min xn dn < 4294967296 := Nat.lt_of_le_of_lt (Nat.min_le_right _ _) hdb
  cases h13 : Nat.beq d 13
  · rw [h13] at hx
    have h13 := beq_f h13
    obtain ⟨hsl, hx⟩ := bc hx
    obtain ⟨b, m1, h1, h2, h3, h4, h5, h6⟩ := atB_ok hx hm
    obtain ⟨h7, h8⟩ := bc h3
    have h7 : offS d + min xn dn * w ≤ b.n := ble_t h7
    obtain ⟨m', h9, h10, h11, h12, h14⟩ := setB_ok h8 (h4.ok hm) h6
    refine ⟨_, m', h9, (h4.step hm).trans h10, int_lt_cB (k := .i64) (p := min xn dn) (Nat.lt_trans hmb (by decide +kernel)), fun T s a hT ha R _ => ?_⟩
    have hu := ha y
    have hu' := ha y'
    rw [hd] at hu
    rw [hsx] at hu'
    show ∃ v' s', (Builtin.copy_ #[t, tx] ty #[a.eval y, a.eval y']).run P s.w = _ ∧ _
    obtain ⟨cs, c1, c2, c3⟩ := hsrc T s _ _ R (fun b hb _ => hb) hu'
    have R1 : Rel P hole s m1 := R.congr h4.mem
    obtain ⟨r', cells, t', f1, f2, f3, f4, f5, f6, f7, f8⟩ := write_ok R1 ((h4.mem b).2 h1) (off := offS d) (k := min xn dn * w) (p := new) h7 hlt rfl (vs := cs) c2 c3
    obtain ⟨r, c, g1, g2, _⟩ := VT.anySl hu hsl
    rw [h2, g1] at f1
    cases f1
    obtain ⟨a2, c2', g3⟩ := lenOf_sl hu' hxn
    have hdl : dn = lenS d := by
      rcases hdn with ⟨_, h⟩ | ⟨h, _⟩ | ⟨h, _⟩
      · exact h
      · exact absurd h h13
      · exfalso
        unfold isSl at hsl
        rw [show Nat.mod d 32 = 14 from h] at hsl
        exact absurd hsl (by decide)
    have c1' := c1 s.w rfl
    rw [g3] at c1'
    refine ⟨.int .i64 (min xn dn : Nat), t', ?_, f6.congr h14, int_enc (Nat.lt_trans hmb (by decide +kernel)), ?_⟩
    · rw [g2, g3, f4]
      exact run_copy_gen ht hi f2 (by rw [hdl]) (by rw [hsz]; exact c1') (VR.list_one c2 c3) (by omega)
    · rw [h11, h4.nx]
      have := f7.congr (Q := (· ∈ m.hp)) (Q' := (· ∈ m'.hp)) (fun c => (h4.mem c).symm) (fun d hd => (h14 d).1 hd)
      rw [h4.nx] at this
      exact this
  · rw [h13] at hx
    have h13 := beq_t h13
    subst h13
    have hd0 : dn = 0 := by
      rcases hdn with ⟨h, _⟩ | ⟨_, h⟩ | ⟨h, _⟩
      · exact absurd h (by decide)
      · exact h
      · omega
    subst hd0
    refine ⟨4, m, hx, MStep.refl hm, lt_cB (by decide +kernel), fun T s a hT ha R _ => ?_⟩
    have hu := ha y
    have hu' := ha y'
    rw [hd] at hu
    rw [hsx] at hu'
    obtain ⟨cs, c1, _⟩ := hsrc T s _ _ R (fun b hb _ => hb) hu'
    obtain ⟨a2, c2', g3⟩ := lenOf_sl hu' hxn
    have c1' := c1 s.w rfl
    rw [g3, Nat.min_zero] at c1'
    refine ⟨.int .i64 0, s, ?_, R, int_enc (n := 0) (by omega), Evo.same R fun _ h => h⟩
    show (Builtin.copy_ #[t, tx] ty #[a.eval y, a.eval y']).run P s.w = _
    rw [VT.nilSl hu, g3]
    exact run_copy_gen0 ht hi (by rw [hsz]; exact c1')
end
end Go.Proofs.YgvaqwGreat.Ev
