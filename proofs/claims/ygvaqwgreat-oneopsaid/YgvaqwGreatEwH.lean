/- Tables of calls that need no memory of the caller's; their soundness. -/
import Derived.Test.YgvaqwGreatEwG
set_option exponentiation.threshold 400
namespace Go.Proofs.YgvaqwGreat.Ev
open Go

abbrev Bkt := List (Nat × List Nat)
def hfind (key : Nat) (l : Bkt) (k : List Nat → R) : R :=
  Nat.rec (motive := fun _ => Bkt → R) (fun _ => none) (fun _ ih l => List.casesOn l none (fun p r => Bool.casesOn (Nat.beq p.1 key) (ih r) (k p.2))) 500 l
def hbkt (n : Nat) (l : List Bkt) : Bkt :=
  Nat.rec (motive := fun _ => List Bkt → Bkt) (fun l => List.casesOn l [] (fun a _ => a)) (fun _ ih l => List.casesOn l [] (fun _ r => ih r)) n l
def giveR (res : List Nat) (m : Mem) : R := match res with
  | [x] => some (x, m)
  | [x, y] => tup2 x y m done
  | [x, y, z] => tup3 x y z m done
  | _ => none
def allSimple (args : List Nat) : Bool := match args with
  | [] => true
  | e :: r => Bool.casesOn (simple e) false (allSimple r)
/-- n arguments, nb buckets -/
def memo0 (n nb : Nat) (tab : List Bkt) : Orc := fun args m => Bool.casesOn (Nat.beq args.length n) none (Bool.casesOn (allSimple args) none
  (forceN (packA args) fun key => hfind key (hbkt (Nat.mod (Nat.div key 32) nb) tab) fun res => giveR res m))
def unpk (n key : Nat) : List Nat := (List.range n).map (pg key)
/-- an entry, run -/
def chkE (call : CallF) (g n : Nat) (p : Nat × List Nat) : Bool := (p.2.all fun x => simple x && Nat.blt x cB) && match call g (unpk n p.1) mE with
  | some (v, m') => canonR v m' == some p.2
  | none => false
def chkB (call : CallF) (g n : Nat) (l : Bkt) : Bool := l.all (chkE call g n)

section
variable {P : Program} {hole : Nat}

theorem hfind_ok {key : Nat} {k : List Nat → R} {x : Nat × Mem} {l : Bkt} (h : hfind key l k = some x) : ∃ res, (key, res) ∈ l ∧ k res = some x := by
  unfold hfind at h
  generalize (500 : Nat) = fuel at h
  induction fuel generalizing l with
  | zero => exact absurd h (by simp)
  | succ n ih =>
    cases l with
    | nil => exact absurd h (by simp)
    | cons p r =>
      have h : (Bool.casesOn (Nat.beq p.1 key) (Nat.rec (motive := fun _ => Bkt → R) (fun _ => none) (fun _ ih l => List.casesOn l none (fun p r => Bool.casesOn (Nat.beq p.1 key) (ih r) (k p.2))) n r) (k p.2) : R) = some x := h
      cases hb : Nat.beq p.1 key
      · rw [hb] at h
        obtain ⟨res, h1, h2⟩ := ih h
        exact ⟨res, List.mem_cons_of_mem _ h1, h2⟩
      · rw [hb] at h
        refine ⟨p.2, ?_, h⟩
        rw [← beq_t hb]
        exact List.mem_cons_self
theorem hbkt_mem {p : Nat × List Nat} : ∀ {n : Nat} {l : List Bkt}, p ∈ hbkt n l → ∃ b ∈ l, p ∈ b := by
  intro n
  induction n with
  | zero =>
    intro l h
    cases l with
    | nil => cases h
    | cons a r => exact ⟨a, List.mem_cons_self, h⟩
  | succ n ih =>
    intro l h
    cases l with
    | nil => cases h
    | cons a r =>
      obtain ⟨b, h1, h2⟩ := ih (l := r) h
      exact ⟨b, List.mem_cons_of_mem _ h1, h2⟩
theorem allSimple_ok : ∀ {args : List Nat}, allSimple args = true → ∀ e ∈ args, simple e = true := by
  intro args
  induction args with
  | nil => intro _ e he; cases he
  | cons a r ih =>
    intro h e he
    unfold allSimple at h
    cases hs : simple a
    · rw [hs] at h; cases h
    · rw [hs] at h
      rcases List.mem_cons.1 he with rfl | he
      · exact hs
      · exact ih h e he
theorem unpk_packA {args : List Nat} (h : ∀ e ∈ args, e < cB) : unpk args.length (packA args) = args := by
  unfold unpk
  apply List.ext_getElem?
  intro i
  rw [List.getElem?_map]
  by_cases hi : i < args.length
  · rw [List.getElem?_range hi, Option.map_some, packA_ok args h, List.getD_eq_getElem?_getD, List.getElem?_eq_getElem hi]
    rfl
  · rw [List.getElem?_eq_none (show (List.range args.length).length ≤ i by simpa using hi), List.getElem?_eq_none (show args.length ≤ i by omega)]
    rfl

/-- a result given back in the caller's memory -/
theorem giveR_ok {res : List Nat} {m : Mem} {v : Nat} {m' : Mem} (hm : MOK m) (hs : ∀ x ∈ res, simple x = true ∧ x < cB) (h : giveR res m = some (v, m')) :
    PStep m m' ∧ v < cB ∧ ∀ (T : List Nat) (s : St) u, Suf m'.ag T → ResV P hole s res u → VT P hole s T v u := by
  have el : ∀ (T : List Nat) (s : St) x u, simple x = true → VR P hole s x u → (x % 32 = 0 ∨ VA P hole s T x u) := fun T s x u hx hu => .inr (VA.of_VR (by have := simple_tag hx; omega) hu)
  unfold giveR at h
  split at h
  · rename_i x
    cases h
    exact ⟨PStep.refl hm, (hs v (by simp)).2, fun T s u _ hu => VT.of_VR hu⟩
  · rename_i x y
    obtain ⟨c1, h⟩ := chkT_ok h
    obtain ⟨c2, h⟩ := chkT_ok h
    obtain ⟨v', m1, h1, h2, h3, h4⟩ := tup_ok (P := P) (hole := hole) hm h
    cases h1
    refine ⟨h2, h3, fun T s u hT hu => ?_⟩
    obtain ⟨us, rfl, hsz, hel⟩ := hu
    have lx := (hs x (by simp)).2
    have ly := (hs y (by simp)).2
    have hp : Nat.add x (Nat.mul cB y) = x + cB * y := rfl
    refine h4 T s us hT hsz fun j hj => ?_
    rcases j with _ | _ | j
    · obtain ⟨w, w1, w2⟩ := hel 0 x rfl
      exact ⟨w, w1, by rw [hp, pg_cons_zero lx]; exact el T s x w (hs x (by simp)).1 w2⟩
    · obtain ⟨w, w1, w2⟩ := hel 1 y rfl
      exact ⟨w, w1, by rw [hp, pg_cons_succ lx, pg_self ly]; exact el T s y w (hs y (by simp)).1 w2⟩
    · omega
  · rename_i x y z
    obtain ⟨c1, h⟩ := chkT_ok h
    obtain ⟨c2, h⟩ := chkT_ok h
    obtain ⟨c3, h⟩ := chkT_ok h
    obtain ⟨v', m1, h1, h2, h3, h4⟩ := tup_ok (P := P) (hole := hole) hm h
    cases h1
    refine ⟨h2, h3, fun T s u hT hu => ?_⟩
    obtain ⟨us, rfl, hsz, hel⟩ := hu
    have lx := (hs x (by simp)).2
    have ly := (hs y (by simp)).2
    have lz := (hs z (by simp)).2
    have hp : Nat.add x (Nat.mul cB (Nat.add y (Nat.mul cB z))) = x + cB * (y + cB * z) := rfl
    refine h4 T s us hT hsz fun j hj => ?_
    rcases j with _ | _ | _ | j
    · obtain ⟨w, w1, w2⟩ := hel 0 x rfl
      exact ⟨w, w1, by rw [hp, pg_cons_zero lx]; exact el T s x w (hs x (by simp)).1 w2⟩
    · obtain ⟨w, w1, w2⟩ := hel 1 y rfl
      exact ⟨w, w1, by rw [hp, pg_cons_succ lx, pg_cons_zero ly]; exact el T s y w (hs y (by simp)).1 w2⟩
    · obtain ⟨w, w1, w2⟩ := hel 2 z rfl
      exact ⟨w, w1, by rw [hp, pg_cons_succ lx, pg_cons_succ ly, pg_self lz]; exact el T s z w (hs z (by simp)).1 w2⟩
    · omega
  · cases h

theorem memo0_ok {call : CallF} (hc : CallOK P hole call) {g n nb : Nat} {tab : List Bkt} (ht : ∀ b ∈ tab, chkB call g n b = true) : OrcOK P hole g (memo0 n nb tab) := by
  intro args m v m' h hm hargs
  obtain ⟨hlen, h⟩ := bc h
  obtain ⟨hsim, h⟩ := bc h
  have hlen : args.length = n := beq_t hlen
  have hsim := allSimple_ok hsim
  rw [forceN_eq] at h
  obtain ⟨res, hin, h⟩ := hfind_ok h
  obtain ⟨b, hb1, hb2⟩ := hbkt_mem hin
  have hchk := List.all_eq_true.1 (ht b hb1) _ hb2
  unfold chkE at hchk
  rw [Bool.and_eq_true] at hchk
  obtain ⟨hall, hchk⟩ := hchk
  simp only at hchk hall
  rw [← hlen, unpk_packA hargs] at hchk
  split at hchk
  · rename_i v0 m0' hrun
    have hcan : canonR v0 m0' = some res := by simpa using hchk
    have hs : ∀ x ∈ res, simple x = true ∧ x < cB := fun x hx => by
      have := List.all_eq_true.1 hall x hx
      rw [Bool.and_eq_true] at this
      exact ⟨this.1, Nat.le_of_ble_eq_true this.2⟩
    obtain ⟨g1, g2, g3⟩ := giveR_ok (P := P) (hole := hole) hm hs h
    have hmE : MOK mE := ⟨fun b hb => (by cases hb), List.Pairwise.nil, rfl, Nat.le_refl _⟩
    refine ⟨g1.step hm, g2, (hc g args mE v0 m0' hrun hmE hargs).2.2.1, fun T s vs hT R hf hsz hvs => ?_⟩
    have hR0 : Rel P hole (⟨fun _ => none, s.K, s.w⟩ : St) mE := ⟨fun b hb => (by cases hb), fun b c hb => (by cases hb), R.kin⟩
    have hcl := memo_call hc (hp1 := m0'.hp) (m := m) (s := s) (s0 := ⟨fun _ => none, s.K, s.w⟩) (vs := vs) hrun hmE hargs (fun b hb => by cases hb) (fun b hb => ⟨hb, fun h => by cases h⟩) hcan R rfl rfl hR0 (fun _ _ => rfl)
      (fun b hb => by cases hb) hsz (fun i e hi => by
        obtain ⟨u, u1, u2⟩ := hvs i e hi
        have he := hsim e (List.mem_of_getElem? hi)
        have ht := simple_tag he
        exact ⟨u, u1, VT.of_VR (VR.simple (s := s) he (fun _ h => h) (fun _ _ => rfl) (VR.of_VT ht.1 ht.2 u2))⟩)
    refine hcl.mono fun e w he => ?_
    obtain ⟨u, rfl, s', q1, q2, q3, q4, q5⟩ := he
    refine ⟨u, rfl, s', q1, q3.congr fun b => by rw [g1.hp], g3 T s' u hT q5, ?_⟩
    rw [g1.nx]
    exact q4.congr (fun _ => Iff.rfl) fun b hb => by rw [g1.hp] at hb; exact hb
  · cases hchk
end
end Go.Proofs.YgvaqwGreat.Ev
