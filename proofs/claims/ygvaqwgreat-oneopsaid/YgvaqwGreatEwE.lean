/- Results; functions; the evaluator whole. -/
import Derived.Test.YgvaqwGreatEwD
set_option exponentiation.threshold 400
namespace Go.Proofs.YgvaqwGreat.Ev
open Go
section
variable {P : Program} {hole N : Nat}

/-! ### results -/
def resV (tmps : Array Value) (r : ResultVar) : Sem Value := match r with
  | .tmp t => pure (tmps.getD t undef)
  | .cell a t => do loadVar t (← asAddr (tmps.getD a undef))
theorem results_eq (fn : Func) (tmps : Array Value) : results fn tmps = (do let vs ← fn.results.mapM (resV tmps); pure (if h : vs.size = 1 then vs[0] else .tuple vs)) := by
  unfold results
  congr 2
theorem loadAt_addr {t : TypeId} {u v : Value} {w : World} (h : (Instr.loadAt t u).run P w = .ok v w) : (do loadVar t (← asAddr u) : Sem Value).run P w = .ok v w := by
  unfold Instr.loadAt Instr.sureAddr at h
  split at h
  · simpa [asAddr] using h
  · simp at h
theorem res1_ok {call : CallF} (r : ResultVar) {E : Nat} {m : Mem} {k : KV} {x : Nat × Mem} (hm : MOK m) (h : (res1 P N r).fn call E m k = some x) :
    ∃ v m', k v m' = some x ∧ RStep m m' ∧ v < cB ∧ ∀ (T : List Nat) (s : St) (a : Act), Suf m'.ag T → ERel P hole s T N E a → Rel P hole s m → ∃ u, (resV a.tmps r).run P s.w = .ok u s.w ∧ VT P hole s T v u := by
  cases r with
  | tmp t => exact ⟨_, m, h, RStep.refl hm, sel_lt N (.tmp t) E, fun T s a hT hE hR => ⟨_, rfl, sel_ok (.tmp t) hE⟩⟩
  | cell a t =>
    have key : ∀ {g : Nat → Mem → KV → R}, LoadU P hole g (fun u => Instr.loadAt t u) → (uop (sel N (.tmp a)) g).fn call E m k = some x → ∃ v m', k v m' = some x ∧ RStep m m' ∧ v < cB ∧ ∀ (T : List Nat) (s : St) (b : Act), Suf m'.ag T → ERel P hole s T N E b → Rel P hole s m → ∃ u, (resV b.tmps (.cell a t)).run P s.w = .ok u s.w ∧ VT P hole s T v u := by
      intro g hg hx
      obtain ⟨v, m', h1, h2, h3, B, h4, h5⟩ := hg _ m k x (sel_lt N (.tmp a) E) hm hx
      refine ⟨v, m', h1, h2, h3, fun T s b hT hE hR => ?_⟩
      obtain ⟨v', e1, e2⟩ := h5 T s _ _ hT hR (fun b hb => (h4 b hb).1) (sel_ok (.tmp a) hE)
      exact ⟨v', loadAt_addr e1, e2⟩
    have h : (szF P t fun s => ldF s (sel N (.tmp a))).fn call E m k = some x := h
    unfold szF at h
    split at h
    · rename_i s hs
      cases s with
      | zero => exact key (ld0_ok hs) h
      | succ w => exact key (ldA_ok hs) h
    · exact absurd h (by simp [bad])
theorem chkT_ok {e : Nat} {r : R} {x : Nat × Mem} (h : chkT e r = some x) : e % 32 ≤ 20 ∧ r = some x := let ⟨h1, h2⟩ := bc h; ⟨ble_t h1, h2⟩
theorem elem_ok {s : St} {T : List Nat} {e : Nat} {u : Value} (h : VT P hole s T e u) (ht : e % 32 ≤ 20) : e % 32 = 0 ∨ VA P hole s T e u := by
  by_cases h0 : e % 32 = 0
  · exact .inl h0
  · exact .inr (VA.of_VT h0 (by omega) (by omega) h)
theorem tup_ok {n p : Nat} {m : Mem} {k : KV} {x : Nat × Mem} (hm : MOK m) (h : newAg 21 n p m k = some x) :
    ∃ v m', k v m' = some x ∧ PStep m m' ∧ v < cB ∧ ∀ (T : List Nat) (s : St) (vs : Array Value), Suf m'.ag T → vs.size = n → (∀ j, j < n → ∃ u, vs[j]? = some u ∧ (pg p j % 32 = 0 ∨ VA P hole s T (pg p j) u)) → VT P hole s T v (.tuple vs) := by
  obtain ⟨v, m', h1, h2, h3, h4, h5, h6, h7⟩ := newAg_ok h hm (by omega)
  refine ⟨v, m', h1, h2, h3, fun T s vs hT hsz hv => ?_⟩
  have hlen : nmOf v < m'.ag.length := by rw [h6, h7]; simp
  have hagT : agT T (nmOf v) = p := by rw [agT_suf hT hlen, h6, h7, agT_head]
  unfold VT
  simp only [h4]
  refine ⟨Nat.lt_of_lt_of_le hlen hT.length, vs, rfl, by rw [h5]; exact hsz, fun j hj => ?_⟩
  rw [h5] at hj
  rw [hagT]
  exact hv j hj
theorem pg_self {u : Nat} (h : u < cB) : pg u 0 = u := by have := pg_cons_zero (a := u) (r := 0) h; simpa using this

def ResOK (P : Program) (hole N : Nat) (fn : Func) (F : ResF) : Prop := ∀ (call : CallF) {E : Nat} {m : Mem} {x : Nat × Mem}, MOK m → F.fn call E m = some x → RStep m x.2 ∧ x.1 < cB ∧
  ∀ (T : List Nat) (s : St) (a : Act), Suf x.2.ag T → ERel P hole s T N E a → Rel P hole s m → ∃ u, (results fn a.tmps).run P s.w = .ok u s.w ∧ VT P hole s T x.1 u
theorem RStep.rel {s : St} {m m' : Mem} (h : RStep m m') (R : Rel P hole s m) : Rel P hole s m' := RelS.congr R h.mem
theorem resF_ok (fn : Func) : ResOK P hole N fn (resF P N fn.results.toList) := by
  intro call E m x hm h
  obtain ⟨rs, hrs⟩ : ∃ rs, fn.results.toList = rs := ⟨_, rfl⟩
  have hrun : ∀ (tmps : Array Value), results fn tmps = (do let vs ← (fn.results.toList.mapM (resV tmps)); pure (if h : vs.toArray.size = 1 then vs.toArray[0] else .tuple vs.toArray)) := by
    intro tmps
    rw [results_eq, Array.mapM_eq_mapM_toList]
    simp
  rw [hrs] at h hrun
  simp only [hrun]
  unfold resF at h
  split at h
  · cases h
    exact ⟨RStep.refl hm, lt_cB (show 0 < 2 ^ 300 by decide +kernel), fun T s a hT hE hR => ⟨.tuple #[], by simp, VT.top rfl⟩⟩
  · rename_i r
    obtain ⟨v, m', h1, h2, h3, h4⟩ := res1_ok (P := P) (hole := hole) r hm h
    cases h1
    refine ⟨h2, h3, fun T s a hT hE hR => ?_⟩
    obtain ⟨u, e1, e2⟩ := h4 T s a hT hE hR
    exact ⟨u, by simp [e1], e2⟩
  · rename_i r1 r2
    obtain ⟨v1, m1, h, s1, l1, f1⟩ := res1_ok (P := P) (hole := hole) r1 hm h
    obtain ⟨v2, m2, h, s2, l2, f2⟩ := res1_ok (P := P) (hole := hole) r2 (s1.ok hm) h
    obtain ⟨c1, h⟩ := chkT_ok h
    obtain ⟨c2, h⟩ := chkT_ok h
    have hm2 := (s1.trans s2).ok hm
    obtain ⟨v, m', h, g2, g3, g4⟩ := tup_ok (P := P) (hole := hole) hm2 h
    cases h
    refine ⟨(s1.trans s2).trans (g2.r hm2), g3, fun T s a hT hE hR => ?_⟩
    obtain ⟨u1, e1, t1⟩ := f1 T s a (s2.ag.trans (g2.ag.trans hT)) hE hR
    obtain ⟨u2, e2, t2⟩ := f2 T s a (g2.ag.trans hT) hE (s1.rel hR)
    refine ⟨.tuple #[u1, u2], by simp [e1, e2], g4 T s #[u1, u2] hT rfl fun j hj => ?_⟩
    rcases j with _ | _ | j
    · exact ⟨u1, rfl, by rw [show Nat.add v1 (Nat.mul cB v2) = v1 + cB * v2 from rfl, pg_cons_zero l1]; exact elem_ok t1 c1⟩
    · exact ⟨u2, rfl, by rw [show Nat.add v1 (Nat.mul cB v2) = v1 + cB * v2 from rfl, pg_cons_succ l1, pg_self l2]; exact elem_ok t2 c2⟩
    · omega
  · rename_i r1 r2 r3
    obtain ⟨v1, m1, h, s1, l1, f1⟩ := res1_ok (P := P) (hole := hole) r1 hm h
    obtain ⟨v2, m2, h, s2, l2, f2⟩ := res1_ok (P := P) (hole := hole) r2 (s1.ok hm) h
    obtain ⟨v3, m3, h, s3, l3, f3⟩ := res1_ok (P := P) (hole := hole) r3 ((s1.trans s2).ok hm) h
    obtain ⟨c1, h⟩ := chkT_ok h
    obtain ⟨c2, h⟩ := chkT_ok h
    obtain ⟨c3, h⟩ := chkT_ok h
    have hm3 := ((s1.trans s2).trans s3).ok hm
    obtain ⟨v, m', h, g2, g3, g4⟩ := tup_ok (P := P) (hole := hole) hm3 h
    cases h
    refine ⟨((s1.trans s2).trans s3).trans (g2.r hm3), g3, fun T s a hT hE hR => ?_⟩
    have hT3 := g2.ag.trans hT
    obtain ⟨u1, e1, t1⟩ := f1 T s a (s2.ag.trans (s3.ag.trans hT3)) hE hR
    obtain ⟨u2, e2, t2⟩ := f2 T s a (s3.ag.trans hT3) hE (s1.rel hR)
    obtain ⟨u3, e3, t3⟩ := f3 T s a hT3 hE ((s1.trans s2).rel hR)
    have hp : Nat.add v1 (Nat.mul cB (Nat.add v2 (Nat.mul cB v3))) = v1 + cB * (v2 + cB * v3) := rfl
    refine ⟨.tuple #[u1, u2, u3], by simp [e1, e2, e3], g4 T s #[u1, u2, u3] hT rfl fun j hj => ?_⟩
    rcases j with _ | _ | _ | j
    · exact ⟨u1, rfl, by rw [hp, pg_cons_zero l1]; exact elem_ok t1 c1⟩
    · exact ⟨u2, rfl, by rw [hp, pg_cons_succ l1, pg_cons_zero l2]; exact elem_ok t2 c2⟩
    · exact ⟨u3, rfl, by rw [hp, pg_cons_succ l1, pg_cons_succ l2, pg_self l3]; exact elem_ok t3 c3⟩
    · omega
  · rename_i r1 r2 r3 r4
    obtain ⟨v1, m1, h, s1, l1, f1⟩ := res1_ok (P := P) (hole := hole) r1 hm h
    obtain ⟨v2, m2, h, s2, l2, f2⟩ := res1_ok (P := P) (hole := hole) r2 (s1.ok hm) h
    obtain ⟨v3, m3, h, s3, l3, f3⟩ := res1_ok (P := P) (hole := hole) r3 ((s1.trans s2).ok hm) h
    obtain ⟨v4, m4, h, s4, l4, f4⟩ := res1_ok (P := P) (hole := hole) r4 (((s1.trans s2).trans s3).ok hm) h
    obtain ⟨c1, h⟩ := chkT_ok h
    obtain ⟨c2, h⟩ := chkT_ok h
    obtain ⟨c3, h⟩ := chkT_ok h
    obtain ⟨c4, h⟩ := chkT_ok h
    have hm4 := (((s1.trans s2).trans s3).trans s4).ok hm
    obtain ⟨v, m', h, g2, g3, g4⟩ := tup_ok (P := P) (hole := hole) hm4 h
    cases h
    refine ⟨(((s1.trans s2).trans s3).trans s4).trans (g2.r hm4), g3, fun T s a hT hE hR => ?_⟩
    have hT4 := g2.ag.trans hT
    obtain ⟨u1, e1, t1⟩ := f1 T s a (s2.ag.trans (s3.ag.trans (s4.ag.trans hT4))) hE hR
    obtain ⟨u2, e2, t2⟩ := f2 T s a (s3.ag.trans (s4.ag.trans hT4)) hE (s1.rel hR)
    obtain ⟨u3, e3, t3⟩ := f3 T s a (s4.ag.trans hT4) hE ((s1.trans s2).rel hR)
    obtain ⟨u4, e4, t4⟩ := f4 T s a hT4 hE (((s1.trans s2).trans s3).rel hR)
    have hp : Nat.add v1 (Nat.mul cB (Nat.add v2 (Nat.mul cB (Nat.add v3 (Nat.mul cB v4))))) = v1 + cB * (v2 + cB * (v3 + cB * v4)) := rfl
    refine ⟨.tuple #[u1, u2, u3, u4], by simp [e1, e2, e3, e4], g4 T s #[u1, u2, u3, u4] hT rfl fun j hj => ?_⟩
    rcases j with _ | _ | _ | _ | j
    · exact ⟨u1, rfl, by rw [hp, pg_cons_zero l1]; exact elem_ok t1 c1⟩
    · exact ⟨u2, rfl, by rw [hp, pg_cons_succ l1, pg_cons_zero l2]; exact elem_ok t2 c2⟩
    · exact ⟨u3, rfl, by rw [hp, pg_cons_succ l1, pg_cons_succ l2, pg_cons_zero l3]; exact elem_ok t3 c3⟩
    · exact ⟨u4, rfl, by rw [hp, pg_cons_succ l1, pg_cons_succ l2, pg_cons_succ l3, pg_self l4]; exact elem_ok t4 c4⟩
    · omega
  · exact absurd h (by simp)

/-! ### functions -/
theorem packA_ok : ∀ (args : List Nat), (∀ e ∈ args, e < cB) → ∀ i, pg (packA args) i = args.getD i 0 := by
  intro args
  induction args with
  | nil => intro _ i; show pg 0 i = _; rw [pg_eq]; simp
  | cons a r ih =>
    intro h i
    have e : packA (a :: r) = a + cB * packA r := by
      show a + (packA r) <<< 320 = _
      rw [Nat.shiftLeft_eq, cB_eq, Nat.mul_comm]
    have ha := h a (by simp)
    rw [e]
    cases i with
    | zero => rw [pg_cons_zero ha]; rfl
    | succ i => rw [pg_cons_succ ha, ih fun e he => h e (by simp [he])]; simp

theorem tg_pack (n t : Nat) : tg (Nat.shiftLeft n 320) t = pg n t := by
  have e : Nat.shiftLeft n 320 = 0 + cB * n := by
    show n <<< 320 = _
    rw [Nat.shiftLeft_eq, cB_eq, Nat.mul_comm, Nat.zero_add]
  unfold tg
  rw [e, pg_cons_succ (lt_cB (by decide +kernel))]
theorem enters_of {g : Nat} {fn : Func} (hf : P.funcs[g]? = some fn) (hn : (fn.name == "runtime.NumGoroutine") = false) {b : Code} (hb : fn.body = some b) : Enters P g := by
  intro vs w
  have hn' : fn.name ≠ "runtime.NumGoroutine" := by simpa using hn
  simp [callFunc, hf, hn', hb]

def OrcOK (P : Program) (hole : Nat) (g : Nat) (o : Orc) : Prop :=
  ∀ args m v m', o args m = some (v, m') → MOK m → (∀ e ∈ args, e < cB) → MStep m m' ∧ v < cB ∧ Enters P g ∧
    ∀ (T : List Nat) (s : St) (vs : Array Value), Suf m'.ag T → Rel P hole s m → Fresh s.sg m.nx m'.nx → vs.size = args.length → (∀ (i e : Nat), args[i]? = some e → ∃ u, vs[i]? = some u ∧ VT P hole s T e u) →
      Calls P g vs s.w (fun e w => ∃ u, e = .returned u ∧ After P hole T s m m' v u w)

theorem run_ok {orc : Nat → Option Orc} (hmo : P.follows .mixedOrders = true) (hname : ∀ (g : Nat) (fn : Func), P.funcs[g]? = some fn → (fn.name == "runtime.NumGoroutine") = false) (horc : ∀ g o, orc g = some o → OrcOK P hole g o) :
    ∀ fuel, CallOK P hole (run P orc fuel) := by
  intro fuel
  induction fuel with
  | zero => intro g args m v m' h; exact absurd h (by simp [run])
  | succ fuel ih =>
    intro g args m v m' h hm hargs
    have h : (fnF P orc g).fn (run P orc fuel) args m = some (v, m') := h
    unfold fnF at h
    split at h
    · rename_i o ho
      exact horc g o ho args m v m' h hm hargs
    · split at h
      · rename_i fn hf
        split at h
        · rename_i b hb hle
          have hle : fn.params.size ≤ fn.ntmps := ble_t hle
          obtain ⟨hlen, h⟩ := bc (show (Bool.casesOn (Nat.beq args.length fn.params.size) none (forceN (Nat.shiftLeft (packA args) 320) fun E => (codeF P fn.ntmps b).fn (run P orc fuel) E m (endX (resF P fn.ntmps fn.results.toList) (run P orc fuel))) : R) = some (v, m') from h)
          rw [forceN_eq] at h
          have hlen : args.length = fn.params.size := beq_t hlen
          obtain ⟨ex, E', m1, h1, h2, h3⟩ := codeF_ok (N := fn.ntmps) ih hmo b hm h
          have hres : (resF P fn.ntmps fn.results.toList).fn (run P orc fuel) E' m1 = some (v, m') ∧ (ex = .normal ∨ ex = .ret) := by
            unfold endX at h1
            split at h1
            · exact ⟨h1, .inl rfl⟩
            · exact ⟨h1, .inr rfl⟩
            · cases h1
          obtain ⟨q1, q2, q3⟩ := resF_ok (P := P) (hole := hole) (N := fn.ntmps) fn (run P orc fuel) h2.ok hres.1
          have hst := h2.trans (q1.step h2.ok)
          refine ⟨hst, q2, enters_of hf (hname g fn hf) hb, fun T s vs hT hR hfr hsz hvs => ?_⟩
          refine calls_of_wp hf hb ?_
          have hE : ERel P hole s T fn.ntmps (Nat.shiftLeft (packA args) 320) { tmps := vs ++ Array.replicate (fn.ntmps - vs.size) undef, defers := [] } := by
            refine ⟨by simp; omega, fun t ht => ?_⟩
            rw [tg_pack, packA_ok args hargs, List.getD_eq_getElem?_getD]
            simp only
            by_cases hta : t < vs.size
            · obtain ⟨u, e1, e2⟩ := hvs t (args[t]'(by omega)) (List.getElem?_eq_getElem _)
              refine ⟨u, by rw [Array.getElem?_append_left hta]; exact e1, ?_⟩
              rw [List.getElem?_eq_getElem (by omega)]
              exact e2
            · refine ⟨undef, ?_, ?_⟩
              · rw [Array.getElem?_append_right (by omega), Array.getElem?_replicate, if_pos (by omega)]
              · rw [List.getElem?_eq_none (by omega)]
                exact VT.top rfl
          have hwp := h3 T s _ (q1.ag.trans hT) hE hR (by have := q1.nx; exact hfr.mono (Nat.le_refl _) (by simp only at this; omega))
          refine wp_mono hwp fun e a w hq => ?_
          obtain ⟨rfl, s1, w1, w2, w3, w4, w5⟩ := hq
          obtain ⟨u, r1, r2⟩ := q3 T s1 a hT w2 w4
          rw [← w1]
          have post : a.defers = [] ∧ ∃ v', (results fn a.tmps).run P s1.w = .ok v' s1.w ∧ ∃ u, (Ending.returned v') = .returned u ∧ After P hole T s m m' v u s1.w := by
            refine ⟨w3, u, r1, u, rfl, s1, rfl, q1.rel w4, r2, ?_⟩
            have := w5.congr (Q := (· ∈ m.hp)) (Q' := (· ∈ m'.hp)) (fun _ => Iff.rfl) (fun b hb => (q1.mem b).1 hb)
            have e := q1.nx
            simp only at e
            rw [e]
            exact this
          rcases hres.2 with rfl | rfl
          · exact post
          · exact post
        · exact absurd h (by simp)
      · exact absurd h (by simp)
end
end Go.Proofs.YgvaqwGreat.Ev
