/- Tables of calls on one slice of bytes; their soundness. -/
import Derived.Test.YgvaqwGreatEwH
set_option exponentiation.threshold 400
namespace Go.Proofs.YgvaqwGreat.Ev
open Go

/-- the slice's code, its name struck -/
def noName (e : Nat) : Nat := Nat.sub e (Nat.mul 32 (nmOf e))
def keyOf (e : Nat) (b : Blk) : Nat := Nat.add (noName e) (Nat.mul cB (Nat.add b.n (Nat.mul cB (Nat.add b.el (Nat.mul cB b.c)))))
/-- the block is bytes alone, and its numbers fit their cells -/
def okB (b : Blk) (r : R) : R := Bool.casesOn (Nat.ble b.n 100000) none (Bool.casesOn (Nat.ble b.el 4294967295) none (Bool.casesOn (Nat.beq (Nat.land b.c (maskN b.n)) (patN b.n)) none r))
def memo1 (nb : Nat) (tab : List Bkt) : Orc := fun args m => match args with
  | [e] => Bool.casesOn (isSl e) none (hget (nmOf e) m.hp fun b => okB b (forceN (keyOf e b) fun key => hfind key (hbkt (Nat.mod (Nat.div key cB) nb) tab) fun res => giveR res m))
  | _ => none
def mKey (key : Nat) : Mem := ⟨[⟨0, pg key 1, Nat.shiftRight key 960, pg key 2, 0⟩], 1, [], 0, 0, []⟩
def noZero (h : Hp) : Hp := h.filter fun b => !Nat.beq b.nm 0
/-- the data's block stands as it stood -/
def sameB (b c : Blk) : Bool := Nat.beq b.nm c.nm && Nat.beq b.n c.n && Nat.beq b.c c.c && Nat.beq b.el c.el && Nat.beq b.kd c.kd
def chkE1 (call : CallF) (g : Nat) (p : Nat × List Nat) : Bool := (p.2.all fun x => simple x && Nat.blt x cB) && match call g [pg p.1 0] (mKey p.1) with
  | some (v, m') => ((mKey p.1).hp.all fun b => m'.hp.any (sameB b)) && canonR v ⟨noZero m'.hp, m'.nx, m'.ag, m'.na, m'.wb, m'.wl⟩ == some p.2
  | none => false
def chkB1 (call : CallF) (g : Nat) (l : Bkt) : Bool := l.all (chkE1 call g)

section
variable {P : Program} {hole : Nat}

theorem okB_ok {b : Blk} {r : R} {x : Nat × Mem} (h : okB b r = some x) : b.n ≤ 100000 ∧ b.el ≤ 4294967295 ∧ (∀ j, j < b.n → pg b.c j % 32 = 5) ∧ r = some x := by
  obtain ⟨h1, h⟩ := bc h
  obtain ⟨h2, h⟩ := bc h
  obtain ⟨h3, h⟩ := bc h
  exact ⟨ble_t h1, ble_t h2, fun j hj => mask_tag (beq_t h3) hj, h⟩
theorem simple_byte {e : Nat} (h : e % 32 = 5) : simple e = true := by
  unfold simple
  have : Nat.ble (Nat.mod (Nat.add e 31) 32) 8 = true := Nat.ble_eq_true_of_le (show (e + 31) % 32 ≤ 8 by omega)
  rw [this]; rfl
theorem noName_eq (e : Nat) : noName e = e - 32 * nmOf e := rfl
theorem nm_le (e : Nat) : 32 * nmOf e ≤ e := by
  show 32 * (e / 32 % 4294967296) ≤ e
  omega
theorem noName_tag (e : Nat) : noName e % 32 = e % 32 := by rw [noName_eq]; have := nm_le e; omega
theorem noName_nm (e : Nat) : nmOf (noName e) = 0 := by
  show (e - 32 * (e / 32 % 4294967296)) / 32 % 4294967296 = 0
  omega
theorem noName_off (e : Nat) : offS (noName e) = offS e := by
  show (e - 32 * (e / 32 % 4294967296)) / 137438953472 % 4294967296 = e / 137438953472 % 4294967296
  omega
theorem noName_len (e : Nat) : lenS (noName e) = lenS e := by
  show (e - 32 * (e / 32 % 4294967296)) / 590295810358705651712 % 4294967296 = e / 590295810358705651712 % 4294967296
  omega
theorem noName_cap (e : Nat) : capS (noName e) = capS e := by
  show (e - 32 * (e / 32 % 4294967296)) / 2535301200456458802993406410752 = e / 2535301200456458802993406410752
  omega
theorem key_get {e : Nat} {b : Blk} (he : e < cB) (hn : b.n ≤ 100000) (hel : b.el ≤ 4294967295) :
    pg (keyOf e b) 0 = noName e ∧ pg (keyOf e b) 1 = b.n ∧ pg (keyOf e b) 2 = b.el ∧ (keyOf e b) >>> 960 = b.c := by
  have e0 : keyOf e b = noName e + cB * (b.n + cB * (b.el + cB * b.c)) := rfl
  have l0 : noName e < cB := Nat.lt_of_le_of_lt (Nat.sub_le _ _) he
  have l1 : b.n < cB := lt_cB (Nat.lt_of_le_of_lt hn (by decide +kernel))
  have l2 : b.el < cB := lt_cB (Nat.lt_of_le_of_lt hel (by decide +kernel))
  rw [e0]
  refine ⟨pg_cons_zero l0, by rw [pg_cons_succ l0, pg_cons_zero l1], by rw [pg_cons_succ l0, pg_cons_succ l1, pg_cons_zero l2], ?_⟩
  have sh : ∀ a r : Nat, a < cB → (a + cB * r) >>> 320 = r := fun a r ha => by
    rw [Nat.shiftRight_eq_div_pow, ← cB_eq]
    rw [Nat.add_mul_div_left _ _ (by rw [cB_eq]; exact Nat.two_pow_pos _), Nat.div_eq_of_lt ha, Nat.zero_add]
  rw [show (960 : Nat) = 320 + 320 + 320 from rfl, Nat.shiftRight_add, Nat.shiftRight_add, sh _ _ l0, sh _ _ l1, sh _ _ l2]

theorem memo1_ok {call : CallF} (hc : CallOK P hole call) {g nb : Nat} {tab : List Bkt} (ht : ∀ b ∈ tab, chkB1 call g b = true) : OrcOK P hole g (memo1 nb tab) := by
  intro args m v m' h hm hargs
  unfold memo1 at h
  split at h
  · rename_i e
    obtain ⟨hsl, h⟩ := bc h
    obtain ⟨b, hb1, hb2, h, _⟩ := hget_ok h hm.nod
    obtain ⟨hn, hel, hby, h⟩ := okB_ok h
    rw [forceN_eq] at h
    obtain ⟨res, hin, h⟩ := hfind_ok h
    obtain ⟨bk, hb3, hb4⟩ := hbkt_mem hin
    have hchk := List.all_eq_true.1 (ht bk hb3) _ hb4
    unfold chkE1 at hchk
    rw [Bool.and_eq_true] at hchk
    obtain ⟨hall, hchk⟩ := hchk
    simp only at hchk hall
    have he : e < cB := hargs e (by simp)
    obtain ⟨k0, k1, k2, k3⟩ := key_get he hn hel
    have hmk : mKey (keyOf e b) = ⟨[⟨0, b.n, b.c, b.el, 0⟩], 1, [], 0, 0, []⟩ := by
      unfold mKey
      rw [k1, k2, show Nat.shiftRight (keyOf e b) 960 = b.c from k3]
    rw [hmk, k0] at hchk
    split at hchk
    · rename_i v0 m0' hrun
      rw [Bool.and_eq_true] at hchk
      obtain ⟨hsame, hcan⟩ := hchk
      have hcan : canonR v0 ⟨noZero m0'.hp, m0'.nx, m0'.ag, m0'.na, m0'.wb, m0'.wl⟩ = some res := by simpa using hcan
      have hs : ∀ x ∈ res, simple x = true ∧ x < cB := fun x hx => by
        have := List.all_eq_true.1 hall x hx
        rw [Bool.and_eq_true] at this
        exact ⟨this.1, Nat.le_of_ble_eq_true this.2⟩
      have hkeep : ∀ c ∈ ([⟨0, b.n, b.c, b.el, 0⟩] : Hp), c ∈ m0'.hp := by
        intro c hcm
        obtain ⟨d, hd1, hd2⟩ := List.any_eq_true.1 (List.all_eq_true.1 hsame c hcm)
        simp only [sameB, Bool.and_eq_true] at hd2
        obtain ⟨⟨⟨⟨q1, q2⟩, q3⟩, q4⟩, q5⟩ := hd2
        have : c = d := by
          cases c; cases d
          simp only [Blk.mk.injEq]
          exact ⟨beq_t q1, beq_t q2, beq_t q3, beq_t q4, beq_t q5⟩
        rw [this]; exact hd1
      obtain ⟨g1, g2, g3⟩ := giveR_ok (P := P) (hole := hole) hm hs h
      have hm0 : MOK (⟨[⟨0, b.n, b.c, b.el, 0⟩], 1, [], 0, 0, []⟩ : Mem) := ⟨fun c hcm => by
        rw [List.mem_singleton.1 hcm]
        exact Nat.zero_lt_one, List.pairwise_singleton _ _, rfl, Nat.zero_le _⟩
      have hlt : ∀ e' ∈ [noName e], e' < cB := fun e' he' => by
        rw [List.mem_singleton.1 he']
        exact Nat.lt_of_le_of_lt (Nat.sub_le _ _) he
      refine ⟨g1.step hm, g2, (hc g _ _ v0 m0' hrun hm0 hlt).2.2.1, fun T s vs hT R hf hsz hvs => ?_⟩
      obtain ⟨r, cells, r1, r2, r3, r4, r5⟩ := R.blk b hb1
      let s0 : St := ⟨fun n => if n = 0 then some r else none, s.K, s.w⟩
      have hs0 : s0.sg 0 = some r := rfl
      have hR0 : Rel P hole s0 (⟨[⟨0, b.n, b.c, b.el, 0⟩], 1, [], 0, 0, []⟩ : Mem) := by
        refine ⟨fun c hcm => ?_, fun c d hcm hdm _ => by rw [List.mem_singleton.1 hcm, List.mem_singleton.1 hdm], R.kin⟩
        rw [List.mem_singleton.1 hcm]
        refine ⟨r, cells, hs0, r2, r3, r4, fun i hi => ?_⟩
        obtain ⟨x, x1, x2⟩ := r5 i hi
        exact ⟨x, x1, VR.simple (s := s) (simple_byte (hby i hi)) (fun _ h => h) (fun _ _ => rfl) x2⟩
      have hcl := memo_call hc (hp1 := noZero m0'.hp) (m := m) (s := s) (s0 := s0) (vs := vs) hrun hm0 hlt hkeep (fun c hcm => by
          unfold noZero at hcm
          rw [List.mem_filter] at hcm
          refine ⟨hcm.1, fun hc0 => ?_⟩
          rw [List.mem_singleton.1 hc0] at hcm
          exact absurd hcm.2 (by simp)) hcan R rfl rfl hR0 (fun n hn => by
          show (if n = 0 then some r else none) = none
          have hn : 1 ≤ n := hn
          rw [if_neg (by omega)]) (fun c hcm => by
          rw [List.mem_singleton.1 hcm]
          exact ⟨b, hb1, by rw [hs0, r1], rfl, rfl, fun j hj => simple_byte (hby j hj)⟩) (by simpa using hsz) (fun i e' hi => by
          have hi0 : i = 0 ∧ e' = noName e := by
            cases i with
            | zero => simp at hi; exact ⟨rfl, hi.symm⟩
            | succ i => simp at hi
          obtain ⟨rfl, rfl⟩ := hi0
          obtain ⟨u, u1, u2⟩ := hvs 0 e rfl
          refine ⟨u, u1, VT.of_VR ?_⟩
          unfold isSl at hsl
          cases h12 : Nat.beq (Nat.mod e 32) 12
          · rw [h12] at hsl
            have h18 : e % 32 = 18 := beq_t hsl
            obtain ⟨q, c, cs, el, y1, y2, y3, y4, y5⟩ := VT.loose u2 h18
            rw [← hb2, r1] at y1
            cases y1
            unfold VR
            rw [noName_tag, h18]
            exact ⟨r, c, cs, el, by rw [noName_nm]; exact hs0, by rw [noName_off, noName_len]; exact y2, by rw [noName_cap]; exact y3, y4, by rw [noName_off]; exact y5⟩
          · have h12 : e % 32 = 12 := beq_t h12
            obtain ⟨q, y1, y2⟩ := VT.sl u2 h12
            rw [← hb2, r1] at y1
            cases y1
            unfold VR
            rw [noName_tag, h12]
            exact ⟨r, by rw [noName_nm]; exact hs0, by rw [noName_off, noName_len, noName_cap]; exact y2⟩)
      refine hcl.mono fun e w he => ?_
      obtain ⟨u, rfl, s', q1, q2, q3, q4, q5⟩ := he
      refine ⟨u, rfl, s', q1, q3.congr fun b => by rw [g1.hp], g3 T s' u hT q5, ?_⟩
      rw [g1.nx]
      exact q4.congr (fun _ => Iff.rfl) fun b hb => by rw [g1.hp] at hb; exact hb
    · cases hchk
  · cases h
end
end Go.Proofs.YgvaqwGreat.Ev
