/- A function that turns one block in place: its calls from a table, each entry proved by pieces. -/
import Derived.Test.YgvaqwGreatEwJ
set_option exponentiation.threshold 400
namespace Go.Proofs.YgvaqwGreat.Ev
open Go

/-- n bools out of the bits of x, packed -/
def expB (n x : Nat) : Nat := Nat.rec (motive := fun _ => Nat → Nat) (fun _ => 0) (fun _ ih x => Nat.add (Nat.add 9 (Nat.mul 32 (Nat.mod x 2))) (Nat.mul cB (ih (Nat.div x 2)))) n x
def blkF0 (n el x : Nat) : Blk := ⟨0, n, expB n x, el, 0⟩
def memF0 (n el x : Nat) : Mem := ⟨[blkF0 n el x], 1, [], 0, 0, []⟩
/-- the call g on a pointer to a block of n bools turns x into y -/
def Turns (P : Program) (hole g n el x y : Nat) : Prop := Enters P g ∧ ∀ (s0 : St) (u : Value), Rel P hole s0 (memF0 n el x) → Bare s0 (memF0 n el x) → VT P hole s0 [] (mkP 0 0) u →
  Calls P g #[u] s0.w (fun e w => ∃ v, e = .returned v ∧ ∃ (s' : St) (hi : Nat), s'.w = w ∧ RelS P hole s' (· = blkF0 n el y) ∧ Evo s0 s' (· ∈ (memF0 n el x).hp) (· = blkF0 n el y) 1 hi)
def ffind (n c : Nat) (l : List (Nat × Nat)) (k : Nat → R) : R := match l with
  | [] => none
  | p :: r => Bool.casesOn (Nat.beq (expB n p.1) c) (ffind n c r k) (forceN (expB n p.2) k)
def memoF (n el : Nat) (tab : List (Nat × Nat)) : Orc := fun args m => match args with
  | [e] => chk e 10 (Bool.casesOn (Nat.beq (offP e) 0) none (atB (nmOf e) m fun b m => Bool.casesOn (Nat.beq b.n n) none (Bool.casesOn (Nat.beq b.el el) none (ffind n b.c tab fun c' => setB b c' m 0 done))))
  | _ => none

section
variable {P : Program} {hole : Nat}

theorem expB_tag : ∀ (n x i : Nat), i < n → pg (expB n x) i % 32 = 9 := by
  intro n
  induction n with
  | zero => intro x i hi; omega
  | succ n ih =>
    intro x i hi
    have e : expB (n + 1) x = (9 + 32 * (x % 2)) + cB * expB n (x / 2) := rfl
    have l : 9 + 32 * (x % 2) < cB := lt_cB (Nat.lt_of_le_of_lt (show 9 + 32 * (x % 2) ≤ 41 by omega) (by decide +kernel))
    rw [e]
    cases i with
    | zero => rw [pg_cons_zero l]; omega
    | succ i => rw [pg_cons_succ l]; exact ih _ i (by omega)
theorem simple_bool {e : Nat} (h : e % 32 = 9) : simple e = true := by
  unfold simple
  have : Nat.ble (Nat.mod (Nat.add e 31) 32) 8 = true := Nat.ble_eq_true_of_le (show (e + 31) % 32 ≤ 8 by omega)
  rw [this]; rfl
theorem ffind_ok {n c : Nat} {k : Nat → R} {x : Nat × Mem} : ∀ {l : List (Nat × Nat)}, ffind n c l k = some x → ∃ p ∈ l, expB n p.1 = c ∧ k (expB n p.2) = some x := by
  intro l
  induction l with
  | nil => intro h; exact absurd h (by simp [ffind])
  | cons p r ih =>
    intro h
    unfold ffind at h
    cases hb : Nat.beq (expB n p.1) c
    · rw [hb] at h
      obtain ⟨q, h1, h2⟩ := ih h
      exact ⟨q, List.mem_cons_of_mem _ h1, h2⟩
    · rw [hb] at h
      rw [forceN_eq] at h
      exact ⟨p, List.mem_cons_self, beq_t hb, h⟩
theorem mkP_zero : mkP 0 0 = 10 := rfl

theorem memoF_ok {g n el : Nat} {tab : List (Nat × Nat)} (ht : ∀ p ∈ tab, Turns P hole g n el p.1 p.2) : OrcOK P hole g (memoF n el tab) := by
  intro args m v m' h hm hargs
  unfold memoF at h
  split at h
  · rename_i e
    obtain ⟨h10, h⟩ := chk_ok h
    obtain ⟨hoff, h⟩ := bc h
    have hoff : offP e = 0 := beq_t hoff
    obtain ⟨b, m1, hb1, hb2, h, hs1, hag, hhd⟩ := atB_ok h hm
    obtain ⟨hn, h⟩ := bc h
    obtain ⟨hel, h⟩ := bc h
    have hn : b.n = n := beq_t hn
    have hel : b.el = el := beq_t hel
    obtain ⟨p, hp1, hp2, h⟩ := ffind_ok h
    obtain ⟨m2, h2, h3, h4, h5, h6⟩ := setB_ok h (hs1.ok hm) hhd
    cases h2
    obtain ⟨hent, hT⟩ := ht p hp1
    refine ⟨(hs1.step hm).trans h3, lt_cB (by decide +kernel), hent, fun T s vs hTs R hf hsz hvs => ?_⟩
    obtain ⟨u, u1, u2⟩ := hvs 0 e rfl
    have hvs1 : vs = #[u] := by
      apply Array.ext
      · simpa using hsz
      · intro i hi1 hi2
        have : i = 0 := by simp at hi2; exact hi2
        subst this
        rw [Array.getElem?_eq_getElem hi1] at u1
        simpa using u1
    subst hvs1
    obtain ⟨r0, e4, rfl⟩ := VT.ptr u2 h10
    rw [← hb2] at e4
    obtain ⟨r, cells, r1, r2, r3, r4, r5⟩ := R.blk b hb1
    obtain rfl : r = r0 := by rw [r1] at e4; exact Option.some.inj e4
    let s0 : St := ⟨fun k => if k = 0 then some r else none, s.K, s.w⟩
    have hs0 : s0.sg 0 = some r := rfl
    have hR0 : Rel P hole s0 (memF0 n el p.1) := by
      refine ⟨fun c hcm => ?_, fun c d hcm hdm _ => by rw [List.mem_singleton.1 hcm, List.mem_singleton.1 hdm], R.kin⟩
      rw [List.mem_singleton.1 hcm]
      refine ⟨r, cells, hs0, by rw [r2, hel]; rfl, by show n ≤ cells.size; omega, r4, fun i hi => ?_⟩
      have hi : i < n := hi
      obtain ⟨x, x1, x2⟩ := r5 i (by omega)
      refine ⟨x, x1, ?_⟩
      show VR P hole s0 (pg (expB n p.1) i) x
      rw [hp2]
      exact VR.simple (s := s) (simple_bool (by rw [← hp2]; exact expB_tag n p.1 i hi)) (fun _ h => h) (fun _ _ => rfl) x2
    have hB0 : Bare s0 (memF0 n el p.1) := fun k hk => by
      show (if k = 0 then some r else none) = none
      have hk : 1 ≤ k := hk
      rw [if_neg (by omega)]
    have hcl := hT s0 (.pointer (some ⟨r, offP e, none⟩)) hR0 hB0 (VT.of_VR (by
      unfold VR
      rw [show mkP 0 0 % 32 = 10 from rfl]
      exact ⟨r, hs0, by rw [hoff]; rfl⟩))
    refine hcl.mono fun ex w hex => ?_
    obtain ⟨v', rfl, s1, hi, w1, R1, E1⟩ := hex
    refine ⟨v', rfl, ?_⟩
    have keep : ∀ q, q ≠ r → q < s.w.heap.size → s1.w.heap[q]? = s.w.heap[q]? := by
      intro q hq hlt
      refine E1.keep q hlt fun c hcm he => ?_
      rw [List.mem_singleton.1 hcm] at he
      have he : s0.sg 0 = some q := he
      rw [hs0] at he
      cases he
      exact hq rfl
    have knew : ∀ q, s1.K q → s.K q ∨ s.w.heap.size ≤ q := fun q h => E1.kn q h
    let t : St := ⟨s.sg, s1.K, s1.w⟩
    have hle : Le s t := ⟨fun _ _ h => h, fun q h => E1.kk q h, fun q hq => keep q (fun h => r4 (h ▸ hq)) (R.kin q hq), fun q c el' fz h => E1.shape q c el' fz h⟩
    have hmem : ∀ d, d ∈ m'.hp ↔ d = ⟨b.nm, b.n, expB n p.2, b.el, salt b.kd⟩ ∨ (d ∈ m.hp ∧ d ≠ b) := fun d => by rw [h6 d, hs1.mem d]
    have hblk : ∃ cells', s1.w.heap[r]? = some (.cells cells' b.el (0, 0)) ∧ b.n ≤ cells'.size ∧ ∀ i, i < b.n → ∃ x, cells'[i]? = some x ∧ VR P hole t (pg (expB n p.2) i) x := by
      obtain ⟨r', cells', f1, f2, f3, f4, f5⟩ := R1.blk _ rfl
      have f1 : s1.sg 0 = some r' := f1
      rw [E1.sg 0 r hs0] at f1
      cases f1
      have f2 : s1.w.heap[r]? = some (.cells cells' el (0, 0)) := f2
      have f3 : n ≤ cells'.size := f3
      refine ⟨cells', by rw [f2, hel], by omega, fun i hi => ?_⟩
      obtain ⟨x, x1, x2⟩ := f5 i (show i < n by omega)
      exact ⟨x, x1, VR.simple (s := s1) (simple_bool (expB_tag n p.2 i (by omega))) (fun _ h => h) (fun _ _ => rfl) x2⟩
    have hsg : ∀ d, d ∈ m'.hp → ∃ c ∈ m.hp, c.nm = d.nm := by
      intro d hd
      rcases (hmem d).1 hd with rfl | ⟨q, _⟩
      · exact ⟨b, hb1, rfl⟩
      · exact ⟨d, q, rfl⟩
    refine ⟨t, w1, ⟨fun d hd => ?_, fun c d hcm hdm he => ?_, fun q hq => R1.kin q hq⟩, VT.top rfl, ?_⟩
    · rcases (hmem d).1 hd with rfl | ⟨hd, hne⟩
      · obtain ⟨cells', g1, g2, g3⟩ := hblk
        refine ⟨r, cells', r1, g1, g2, fun hk => ?_, g3⟩
        rcases knew r hk with q | q
        · exact r4 q
        · have := lt_of_heap r2; omega
      · obtain ⟨q, cs, e1, e2, e3, e4, e5⟩ := R.blk d hd
        have hqr : q ≠ r := fun h => hne (R.inj d b hd hb1 (by rw [e1, r1, h]))
        refine ⟨q, cs, e1, ?_, e3, fun hk => ?_, fun i hi => let ⟨x, x1, x2⟩ := e5 i hi; ⟨x, x1, x2.le hle⟩⟩
        · show s1.w.heap[q]? = _
          rw [keep q hqr (lt_of_heap e2)]
          exact e2
        · rcases knew q hk with z | z
          · exact e4 z
          · have := lt_of_heap e2; omega
    · have he : s.sg c.nm = s.sg d.nm := he
      rcases (hmem c).1 hcm with rfl | ⟨q1, q2⟩ <;> rcases (hmem d).1 hdm with rfl | ⟨q3, q4⟩
      · rfl
      · exact absurd (R.inj b d hb1 q3 he).symm q4
      · exact absurd (R.inj c b q1 hb1 he) q2
      · exact R.inj c d q1 q3 he
    · rw [h4, hs1.nx]
      refine ⟨E1.os, E1.out, E1.size, fun q hq hS => keep q (fun h => hS b hb1 (by rw [r1, h])) hq, fun q c el' fz h => E1.shape q c el' fz h, E1.froz, fun _ _ h => h, fun _ h => absurd rfl h, fun q h => E1.kk q h, knew, fun d hd => ?_⟩
      obtain ⟨c, hc1, hc2⟩ := hsg d hd
      obtain ⟨q, _, e1, _⟩ := R.blk c hc1
      exact ⟨q, by rw [← hc2]; exact e1, .inr ⟨c, hc1, e1⟩⟩
  · exact absurd h (by simp)
end
end Go.Proofs.YgvaqwGreat.Ev
