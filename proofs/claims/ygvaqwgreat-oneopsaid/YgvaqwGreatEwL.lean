/- A function that turns one block in place, by pieces; the whole of OneOp, by pieces. -/
import Derived.RowKit3
import Derived.Test.YgvaqwGreatEwK
set_option exponentiation.threshold 400
namespace Go.Proofs.YgvaqwGreat.Ev
open Go Go.RowKit

/-- a row of codes, a loop behind its start, and one more code -/
def isShape : Code → Option Nat
  | .seq (.seq _ (.block id (.loop _))) _ => some id
  | _ => none
def shR (c : Code) : Code := seq1 (seq1 c)
def shC (c : Code) : Code := unLoop (unBlock (seq2 (seq1 c)))
theorem shape_ok {c : Code} {id : Nat} (h : isShape c = some id) : c = .seq (.seq (shR c) (.block id (.loop (shC c)))) (seq2 c) := by
  unfold isShape at h
  split at h
  · cases h; rfl
  · cases h

section
variable {P : Program} {hole N : Nat}

theorem pg_zero_of {E t : Nat} (h : E < cB) (ht : 0 < t) : pg E t = 0 := by
  cases t with
  | zero => omega
  | succ t =>
    have := pg_cons_succ (a := E) (r := 0) h (i := t)
    rw [Nat.mul_zero, Nat.add_zero] at this
    rw [this, pg_eq]; simp
/-- the start: one argument -/
theorem at_start {s0 : St} {m0 : Mem} (hm : MOK m0) (hag : m0.ag = []) {e : Nat} (he : e < cB) {u : Value} (hu : VT P hole s0 [] e u) (R : Rel P hole s0 m0) (hN : 1 ≤ N) :
    At P hole N s0 m0 (Nat.shiftLeft e 320) m0 { tmps := #[u] ++ Array.replicate (N - 1) undef, defers := [] } s0.w := by
  refine ⟨hm, hag, Nat.le_refl _, s0, rfl, ⟨by simp; omega, fun t ht => ?_⟩, rfl, R, Evo.same R fun _ h => h⟩
  cases t with
  | zero => exact ⟨u, by rw [Array.getElem?_append_left (by simp)]; rfl, by rw [tg_pack, pg_self he]; exact hu⟩
  | succ t =>
    refine ⟨undef, ?_, VT.top (by rw [tg_pack, pg_zero_of he (by omega)])⟩
    simp only
    rw [Array.getElem?_append_right (by simp), Array.getElem?_replicate, if_pos (by simp; omega)]

theorem turns_of {call : CallF} (hc : CallOK P hole call) (hmo : P.follows .mixedOrders = true) {g : Nat} {fn : Func} {body : Code} (hf : P.funcs[g]? = some fn) (hbody : fn.body = some body) (hname : (fn.name == "runtime.NumGoroutine") = false)
    (hN : fn.ntmps = N) (hN1 : 1 ≤ N) (hres : fn.results = #[]) {n el x y id E1 E2 : Nat} {m1 m2 mF : Mem} {Es : Nat → Nat} {ms : Nat → Mem} {k : Nat}
    (h1 : cleanR N (evs P N call (spine 3 body).1 (Nat.shiftLeft 10 320) (memF0 n el x)) E1 m1 = true) (hsh : isShape (spine 3 body).2 = some id)
    (h2 : cleanR N ((codeF P N (shR (spine 3 body).2)).fn call E1 m1 stopN) (Es 0) (ms 0) = true)
    (h3 : ∀ i, i < k → cleanR N ((codeF P N (shC (spine 3 body).2)).fn call (Es i) (ms i) stopN) (Es (i + 1)) (ms (i + 1)) = true)
    (h4 : cleanR N ((codeF P N (shC (spine 3 body).2)).fn call (Es k) (ms k) (stopX id)) E2 m2 = true)
    (h5 : cleanR N ((codeF P N (seq2 (spine 3 body).2)).fn call E2 m2 stopN) 0 mF = true) (hF : mF.hp = [blkF0 n el y]) : Turns P hole g n el x y := by
  refine ⟨enters_of hf hname hbody, fun s0 u hR hB hu => calls_of_wp hf hbody ?_⟩
  have hm0 : MOK (memF0 n el x) := ⟨fun c hcm => by
    rw [List.mem_singleton.1 hcm]
    exact Nat.zero_lt_one, List.pairwise_singleton _ _, rfl, Nat.zero_le _⟩
  have hat := at_start (N := N) (e := 10) hm0 rfl (lt_cB (by decide +kernel)) hu hR hN1
  rw [hN]
  rw [← spine_ok 3 body]
  refine row hc hmo h1 hB (fun a w hat => ?_) hat
  rw [shape_ok hsh]
  refine wp_seq ?_
  refine wp_seq (wp_mono (piece hc hmo stopN_ok h2 hB hat) fun e a w hq => ?_)
  obtain ⟨rfl, hat⟩ := hq
  show (Code.block id _).wp P _ a w
  refine wp_block (rounds hc hmo h3 h4 hB (fun a w hat => ?_) hat)
  show if id = id then _ else _
  rw [if_pos rfl]
  show (seq2 (spine 3 body).2).wp P _ a w
  refine wp_mono (piece hc hmo stopN_ok h5 hB hat) fun e a w hq => ?_
  obtain ⟨rfl, _, _, _, s, q1, _, q3, q4, q5⟩ := hq
  refine ⟨q3, .tuple #[], ?_, .tuple #[], rfl, s, mF.nx, q1, ?_, ?_⟩
  · rw [results_eq, hres]; simp
  · exact RelS.sub q4 fun b hb => by rw [hF, hb]; exact List.mem_singleton.2 rfl
  · exact q5.congr (fun _ => Iff.rfl) fun b hb => by rw [hF, hb]; exact List.mem_singleton.2 rfl

/-! ### the whole -/
/-- the temporaries 0, 3 and 4 left open -/
def EB0 : Nat := Nat.add 15 (Nat.add (Nat.mul 47 (Nat.shiftLeft 1 960)) (Nat.mul 79 (Nat.shiftLeft 1 1280)))
def EB : Nat := Nat.shiftLeft EB0 320
theorem EB_get (t : Nat) : tg EB t = if t = 0 then 15 else if t = 3 then 47 else if t = 4 then 79 else 0 := by
  have e : EB0 = 15 + cB * (0 + cB * (0 + cB * (47 + cB * (79 + cB * 0)))) := by decide +kernel
  have l : ∀ k, k < 100 → k < cB := fun k hk => lt_cB (Nat.lt_of_lt_of_le hk (by decide +kernel))
  unfold EB
  rw [tg_pack, e]
  match t with
  | 0 => rw [pg_cons_zero (l _ (by omega))]; rfl
  | 1 => rw [pg_cons_succ (l _ (by omega)), pg_cons_zero (l _ (by omega))]; rfl
  | 2 => rw [pg_cons_succ (l _ (by omega)), pg_cons_succ (l _ (by omega)), pg_cons_zero (l _ (by omega))]; rfl
  | 3 => rw [pg_cons_succ (l _ (by omega)), pg_cons_succ (l _ (by omega)), pg_cons_succ (l _ (by omega)), pg_cons_zero (l _ (by omega))]; rfl
  | 4 => rw [pg_cons_succ (l _ (by omega)), pg_cons_succ (l _ (by omega)), pg_cons_succ (l _ (by omega)), pg_cons_succ (l _ (by omega)), pg_cons_zero (l _ (by omega))]; rfl
  | t + 5 =>
    rw [pg_cons_succ (l _ (by omega)), pg_cons_succ (l _ (by omega)), pg_cons_succ (l _ (by omega)), pg_cons_succ (l _ (by omega)), pg_cons_succ (l _ (by omega)), if_neg (by omega), if_neg (by omega), if_neg (by omega), pg_eq]
    simp
theorem toI_i64 {p : Nat} (h : p < 256) : toI .i64 p = (p : Int) := by
  unfold toI
  rw [if_pos (show p < kpos .i64 by show p < 9223372036854775808; omega)]
theorem toI_u8 {p : Nat} (h : p < 256) : toI .u8 p = (p : Int) := by
  unfold toI
  rw [if_pos (show p < kpos .u8 by show p < 256; omega)]

/-- what is known is left open, and the memory forgotten -/
theorem to_hole {s0 : St} {E : Nat} {m : Mem} {a : Act} {w : World} {T : List Nat} (hsg : ∀ n, s0.sg n = none) {tk gv o : Nat} (ho : o < 256) (ht : tk < 256) (hg : gv < 256) (hh : hole = o + 256 * tk + 65536 * gv)
    (h0 : tg E 0 = 5 + 32 * o) (h3 : tg E 3 = 4 + 32 * tk) (h4 : tg E 4 = 4 + 32 * gv) (h : Post P hole N .normal T s0 mE m E { tmps := #[.int .u8 o] ++ Array.replicate (N - 1) undef, defers := [] } .normal a w) :
    At P hole N s0 mE EB mE a w := by
  obtain ⟨_, s, rfl, hE, hd, hR, hev⟩ := h
  refine ⟨⟨fun b hb => (by cases hb), List.Pairwise.nil, rfl, Nat.le_refl _⟩, rfl, Nat.le_refl _, ⟨fun _ => none, s.K, s.w⟩, rfl, ⟨hE.size, fun t ht' => ?_⟩, hd, ⟨fun b hb => (by cases hb), fun b c hb => (by cases hb), hR.kin⟩, ?_⟩
  · obtain ⟨v, h1, h2⟩ := hE.val t ht'
    refine ⟨v, h1, ?_⟩
    rw [EB_get]
    by_cases t0 : t = 0
    · subst t0
      rw [if_pos rfl]
      rw [h0] at h2
      have y := VR.of_VT (by omega) (by omega) h2
      unfold VR at y
      rw [show (5 + 32 * o) % 32 = 5 by omega, show (5 + 32 * o) / 32 = o by omega] at y
      refine VT.of_VR ?_
      unfold VR
      rw [show (15 : Nat) % 32 = 15 from rfl]
      refine .inl ⟨rfl, ?_⟩
      rw [y.2, toI_u8 y.1, show hole % 256 = o by omega]
    · rw [if_neg t0]
      by_cases t3 : t = 3
      · subst t3
        rw [if_pos rfl]
        rw [h3] at h2
        have y := VR.of_VT (by omega) (by omega) h2
        unfold VR at y
        rw [show (4 + 32 * tk) % 32 = 4 by omega, show (4 + 32 * tk) / 32 = tk by omega] at y
        refine VT.of_VR ?_
        unfold VR
        rw [show (47 : Nat) % 32 = 15 from rfl]
        refine .inr (.inl ⟨rfl, ?_⟩)
        rw [y.2, toI_i64 ht, show hole / 256 % 256 = tk by omega]
      · rw [if_neg t3]
        by_cases t4 : t = 4
        · subst t4
          rw [if_pos rfl]
          rw [h4] at h2
          have y := VR.of_VT (by omega) (by omega) h2
          unfold VR at y
          rw [show (4 + 32 * gv) % 32 = 4 by omega, show (4 + 32 * gv) / 32 = gv by omega] at y
          refine VT.of_VR ?_
          unfold VR
          rw [show (79 : Nat) % 32 = 15 from rfl]
          refine .inr (.inr ⟨rfl, ?_⟩)
          rw [y.2, toI_i64 hg, show hole / 65536 = gv by omega]
        · rw [if_neg t4]
          exact VT.top rfl
  · exact ⟨hev.os, hev.out, hev.size, hev.keep, hev.shape, hev.froz, fun n r h => (by rw [hsg] at h; cases h), fun n h => absurd (hsg n).symm h, hev.kk, hev.kn, fun b hb => (by cases hb)⟩

/-- what was left open -/
def val15 (hole e : Nat) : Nat := match e with
  | 15 => 5 + 32 * (hole % 256)
  | 47 => 4 + 32 * (hole / 256 % 256)
  | 79 => 4 + 32 * (hole / 65536)
  | e => e
theorem VR.val15 {s : St} {e : Nat} {u : Value} (hg : hole / 65536 < 256) (h : VR P hole s e u) : VR P hole s (val15 hole e) u := by
  unfold Ev.val15
  split
  · unfold VR at h
    rw [show (15 : Nat) % 32 = 15 from rfl] at h
    unfold VR
    rw [show (5 + 32 * (hole % 256)) % 32 = 5 by omega, show (5 + 32 * (hole % 256)) / 32 = hole % 256 by omega]
    rcases h with ⟨_, h⟩ | ⟨h, _⟩ | ⟨h, _⟩
    · exact ⟨by omega, by rw [h, toI_u8 (by omega)]⟩
    · cases h
    · cases h
  · unfold VR at h
    rw [show (47 : Nat) % 32 = 15 from rfl] at h
    unfold VR
    rw [show (4 + 32 * (hole / 256 % 256)) % 32 = 4 by omega, show (4 + 32 * (hole / 256 % 256)) / 32 = hole / 256 % 256 by omega]
    rcases h with ⟨h, _⟩ | ⟨_, h⟩ | ⟨h, _⟩
    · cases h
    · exact ⟨by omega, by rw [h, toI_i64 (by omega)]⟩
    · cases h
  · unfold VR at h
    rw [show (79 : Nat) % 32 = 15 from rfl] at h
    unfold VR
    rw [show (4 + 32 * (hole / 65536)) % 32 = 4 by omega, show (4 + 32 * (hole / 65536)) / 32 = hole / 65536 by omega]
    rcases h with ⟨h, _⟩ | ⟨h, _⟩ | ⟨_, h⟩
    · cases h
    · cases h
    · exact ⟨by omega, by rw [h, toI_i64 (by omega)]⟩
  · exact h
theorem val15_lt {e : Nat} (hg : hole / 65536 < 256) (h : e < cB) : val15 hole e < cB := by
  have l : ∀ k, k < 100000 → k < cB := fun k hk => lt_cB (Nat.lt_of_lt_of_le hk (by decide +kernel))
  unfold val15
  split
  · exact l _ (by omega)
  · exact l _ (by omega)
  · exact l _ (by omega)
  · exact h
/-- the cell j of a packed row filled in -/
def fillC (hole c j : Nat) : Nat := ps c j (val15 hole (pg c j))
theorem fillC_get (hg : hole / 65536 < 256) (c j i : Nat) : pg (fillC hole c j) i = if i = j then val15 hole (pg c i) else pg c i := by
  unfold fillC
  rw [pg_ps (val15_lt hg (pg_lt _ _))]
  by_cases h : i = j
  · subst h; simp only [if_pos]
  · rw [if_neg h, if_neg h]
def fillB (hole nm j : Nat) (b : Blk) : Blk := Bool.casesOn (Nat.beq b.nm nm) b ⟨b.nm, b.n, fillC hole b.c j, b.el, b.kd⟩
theorem fillB_nm (hole nm j : Nat) (b : Blk) : (fillB hole nm j b).nm = b.nm ∧ (fillB hole nm j b).n = b.n ∧ (fillB hole nm j b).el = b.el ∧ ((fillB hole nm j b).c = b.c ∨ (fillB hole nm j b).c = fillC hole b.c j) := by
  unfold fillB
  cases Nat.beq b.nm nm
  · exact ⟨rfl, rfl, rfl, .inl rfl⟩
  · exact ⟨rfl, rfl, rfl, .inr rfl⟩
theorem pw_map {f : Blk → Blk} (hf : ∀ b, (f b).nm = b.nm) : ∀ {l : Hp}, l.Pairwise (fun b c => b.nm ≠ c.nm) → (l.map f).Pairwise (fun b c => b.nm ≠ c.nm) := by
  intro l
  induction l with
  | nil => intro _; exact List.Pairwise.nil
  | cons b r ih =>
    intro h
    rw [List.pairwise_cons] at h
    rw [List.map_cons, List.pairwise_cons]
    refine ⟨fun c hc => ?_, ih h.2⟩
    obtain ⟨d, d1, rfl⟩ := List.mem_map.1 hc
    rw [hf, hf]
    exact h.1 d d1
def fillM (hole nm j : Nat) (m : Mem) : Mem := ⟨m.hp.map (fillB hole nm j), m.nx, m.ag, m.na, m.wb, m.wl⟩
theorem at_fillM {s0 : St} {m0 : Mem} {E : Nat} {m : Mem} {a : Act} {w : World} (hg : hole / 65536 < 256) (nm j : Nat) (h : At P hole N s0 m0 E m a w) : At P hole N s0 m0 E (fillM hole nm j m) a w := by
  obtain ⟨hm, hag, hle, s, q1, q2, q3, q4, q5⟩ := h
  have hin : ∀ b ∈ (fillM hole nm j m).hp, ∃ c ∈ m.hp, fillB hole nm j c = b := fun b hb => by
    obtain ⟨c, h1, h2⟩ := List.mem_map.1 hb
    exact ⟨c, h1, h2⟩
  refine ⟨⟨fun b hb => ?_, ?_, hm.na, hm.wb⟩, hag, hle, s, q1, q2, q3, ⟨fun b hb => ?_, fun b c hb hcm he => ?_, q4.kin⟩, ?_⟩
  · obtain ⟨c, h1, rfl⟩ := hin b hb
    rw [(fillB_nm hole nm j c).1]
    exact hm.nmb c h1
  · show List.Pairwise _ (m.hp.map (fillB hole nm j))
    exact pw_map (fun b => (fillB_nm hole nm j b).1) hm.nod
  · obtain ⟨c, h1, rfl⟩ := hin b hb
    obtain ⟨f1, f2, f3, f4⟩ := fillB_nm hole nm j c
    obtain ⟨r, cells, e1, e2, e3, e4, e5⟩ := q4.blk c h1
    refine ⟨r, cells, by rw [f1]; exact e1, by rw [f3]; exact e2, by rw [f2]; exact e3, e4, fun i hi => ?_⟩
    rw [f2] at hi
    obtain ⟨v, v1, v2⟩ := e5 i hi
    refine ⟨v, v1, ?_⟩
    rcases f4 with f4 | f4
    · rw [f4]; exact v2
    · rw [f4, fillC_get hg]
      split
      · exact v2.val15 hg
      · exact v2
  · obtain ⟨b', h1, rfl⟩ := hin b hb
    obtain ⟨c', h2, rfl⟩ := hin c hcm
    rw [(fillB_nm hole nm j b').1, (fillB_nm hole nm j c').1] at he
    rw [q4.inj b' c' h1 h2 he]
  · exact q5.congr' fun b hb => by
      obtain ⟨c, h1, rfl⟩ := hin b hb
      exact ⟨c, h1, (fillB_nm hole nm j c).1.symm⟩
def fillMs (hole : Nat) (m : Mem) : List (Nat × Nat) → Mem
  | [] => m
  | p :: r => fillMs hole (fillM hole p.1 p.2 m) r
theorem at_fillMs {s0 : St} {m0 : Mem} {E : Nat} {a : Act} {w : World} (hg : hole / 65536 < 256) : ∀ (l : List (Nat × Nat)) {m : Mem}, At P hole N s0 m0 E m a w → At P hole N s0 m0 E (fillMs hole m l) a w := by
  intro l
  induction l with
  | nil => intro m h; exact h
  | cons p r ih => intro m h; exact ih (at_fillM hg p.1 p.2 h)
theorem at_fillE {s0 : St} {m0 m : Mem} {E : Nat} {a : Act} {w : World} (hg : hole / 65536 < 256) (j : Nat) (h : At P hole N s0 m0 E m a w) : At P hole N s0 m0 (fillC hole E (j + 1)) m a w := by
  obtain ⟨hm, hag, hle, s, q1, q2, q3, q4, q5⟩ := h
  refine ⟨hm, hag, hle, s, q1, ⟨q2.size, fun t ht => ?_⟩, q3, q4, q5⟩
  obtain ⟨v, v1, v2⟩ := q2.val t ht
  refine ⟨v, v1, ?_⟩
  unfold tg at v2 ⊢
  rw [fillC_get hg]
  split
  · by_cases h15 : pg E (t + 1) = 15 ∨ pg E (t + 1) = 47 ∨ pg E (t + 1) = 79
    · exact VT.of_VR (VR.val15 hg (VR.of_VT (by omega) (by omega) v2))
    · have : val15 hole (pg E (t + 1)) = pg E (t + 1) := by
        unfold val15
        split
        · omega
        · omega
        · omega
        · rfl
      rw [this]
      exact v2
  · exact v2
end
end Go.Proofs.YgvaqwGreat.Ev
