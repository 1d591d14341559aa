/- Regions that draw their order: one step; all steps; the region whole. -/
import Derived.Test.YgvaqwGreatEwB
set_option exponentiation.threshold 400
namespace Go.Proofs.YgvaqwGreat.Ev
open Go
section
variable {P : Program} {hole N : Nat} {ops : Array Oper} {f : Nat → Rec}

def LookOK (P : Program) (N : Nat) (ops : Array Oper) (f : Nat → Rec) : Prop :=
  ∀ (i : Nat) (o : Oper), ops[i]? = some o → kindD P o.op = 1 → memRef ((sel N (addrD o.op)).fn (f ops.size).E) = true → nmOf ((sel N (addrD o.op)).fn (f ops.size).E) < (f 0).m.nx ∧
    ∀ (e : Nat) (oe : Oper), ops[e]? = some oe → kindD P oe.op = 3 → ancB (masks ops.toList []) i e = false → ancB (masks ops.toList []) e i = false → nmOf ((sel N (addrD o.op)).fn (f ops.size).E) ∉ (f e).o.wl

theorem disj (h : Tr P hole N ops f) {i j : Nat} {oi oj : Oper} (hi : ops[i]? = some oi) (hj : ops[j]? = some oj) (hne : j ≠ i) {n : Nat} (h1 : (f i).m.nx ≤ n) (h2 : n < (f i).o.nx) : ¬ ((f j).m.nx ≤ n ∧ n < (f j).o.nx) := by
  have li := lt_at hi
  have lj := lt_at hj
  have ei := (tr_step h hi).2.2.1
  have ej := (tr_step h hj).2.2.1
  rcases Nat.lt_or_ge j i with q | q
  · have := (tr_mono h (show j + 1 ≤ i by omega) (by omega)).1
    omega
  · have := (tr_mono h (show i + 1 ≤ j by omega) (by omega)).1
    omega

theorem ready_of {listed : Array Bool} {i : Nat} (hr : i ∈ Region.ready .any ops listed) : ∃ o, ops[i]? = some o ∧ i < listed.size ∧ listed.getD i false = false ∧ ∀ e ∈ o.after, Region.binds .any e = true → listed.getD e.on false = true := by
  obtain ⟨h1, o, h2, h3⟩ := mem_ready.1 hr
  refine ⟨o, h2, ?_, ?_, h3⟩
  · rcases Nat.lt_or_ge i listed.size with h | h
    · exact h
    · rw [Array.getD_eq_getD_getElem?, Array.getElem?_eq_none h] at h1; cases h1
  · rw [Array.getD_eq_getD_getElem?] at h1 ⊢
    cases hc : listed[i]? with
    | none => rfl
    | some b => rw [hc] at h1; exact h1

theorem one_step (h : Tr P hole N ops f) (hok : OkD P ops) (hwb : (f 0).m.wb = (f 0).m.nx) (hlk : LookOK P N ops f) {T : List Nat} (hT : Suf (f ops.size).m.ag T) {s0 s : St} {a0 a : Act} {listed : Array Bool}
    (I : Inv P hole N ops f T s0 a0 listed a s) {i : Nat} (hr : i ∈ Region.ready .any ops listed) {K : Act → World → Prop} {Q : Exit → Act → World → Prop}
    (hK : ∀ a' s', Inv P hole N ops f T s0 a0 (listed.setIfInBounds i true) a' s' → K a' s'.w) : wpOp P ops Q i K a s.w := by
  obtain ⟨o, ho, hi, hu, hed⟩ := ready_of hr
  obtain ⟨c, M⟩ := I.mem
  have hs := h i o ho
  have li := lt_at ho
  have hTi : Suf (f i).o.ag T := by
    rw [← (tr_step h ho).2.2.2.1]
    exact (tr_mono h (show i + 1 ≤ ops.size by omega) (Nat.le_refl _)).2.1.trans hT
  have env : EnvO P hole N o s T (f i).E a := ⟨I.tsz, fun t ht htN => I.look h hok ho hu hed htN (List.mem_append_left _ (List.mem_filterMap.2 ⟨.tmp t, by simpa using ht, rfl⟩))⟩
  have hw : Region.wanted o (yielded ops a.tmps) = (f i).tk := by
    cases hg : o.guard with
    | none => rw [hs.guard0 hg]; simp [Region.wanted, hg]
    | some gw =>
      obtain ⟨g, want⟩ := gw
      obtain ⟨d, hd, hy, hn⟩ := hs.guard1 g want hg
      have hdl : d ∈ o.looksAt ops := by
        refine List.mem_append_right _ ?_
        rw [hg]
        simp only
        unfold gtmp at hd
        split at hd
        · rename_i og hog
          split at hd
          · rename_i d' hd'
            split at hd
            · cases hd
              have : ops[g]? = some og := by simpa using hog
              simp [this, hd']
            · cases hd
          · cases hd
        · cases hd
      have hv := I.look h hok ho hu hed (gtmp_lt hd) hdl
      have e : Region.wanted o (yielded ops a.tmps) = (yielded ops a.tmps g == some want) := by simp [Region.wanted, hg]
      rw [e]
      cases ht : (f i).tk
      · exact grd_no hd hv (hn ht)
      · exact grd_yes hd hv (hy ht)
  unfold wpOp
  rw [ho]
  simp only [hw]
  have fr0 : ∀ (j : Nat) (oj : Oper), ops[j]? = some oj → j ≠ i → listed.getD j false = false → Fresh s.sg (f j).m.nx (f j).o.nx := fun j oj hj _ hl => I.fr j oj hj hl
  cases ht : (f i).tk
  · simp only [Bool.false_eq_true, if_false]
    obtain ⟨hv, hom⟩ := hs.no ht
    refine hK _ s (I.step hok ho hed (Le.refl s) (by rw [hv]; exact VT.mk_undef) ?_ fr0)
    by_cases hk : kindD P o.op = 3
    · refine ⟨i + 1, eff_mem M h hok hi I.cl ho hu hed hk ?_ ?_⟩
      · rw [hom]
        exact M.rel.congr fun b => (eff_sd M h hok I.cl ho hu hed hk b).symm
      · rw [hom]
        exact M.evo.congr (fun _ => Iff.rfl) fun b hb => (eff_sd M h hok I.cl ho hu hed hk b).2 hb
    · exact ⟨c, M.quiet hi ho hk fun b ⟨_, _, _, q, _⟩ => by rw [ht] at q; cases q⟩
  · simp only [if_true]
    left
    obtain ⟨hvlt, hsem⟩ := hs.yes ht
    rcases hsem with ⟨hk, q1, q2⟩ | ⟨hk, q1, B, q2, _, q3⟩ | ⟨hk, b0, q1, q2, q3, q4, q5, q6, q7⟩ | ⟨hk, q1, q2⟩
    · obtain ⟨v', e1, e2⟩ := q2 T s a hTi env
      refine e1 K Q fun u w ⟨hu1, hw1⟩ => ?_
      rw [hw1, hu1]
      exact hK _ s (I.step hok ho hed (Le.refl s) e2 ⟨c, M.quiet hi ho (by omega) fun b ⟨o', ho', q, _⟩ => by rw [ho] at ho'; cases ho'; omega⟩ fr0)
    · have hB : ∀ b, B = some b → SD P ops f c listed b := by
        intro b hb
        obtain ⟨e1, e2, e3⟩ := q2 b hb
        obtain ⟨t, hat, hnw⟩ := hok.addr i o ho hk
        have hsel : (sel N (addrD o.op)).fn (f ops.size).E = (sel N (addrD o.op)).fn (f i).E := by
          rw [hat]
          by_cases htN : t < N
          · rw [sel_tmp htN, sel_tmp htN]
            exact E_keep h htN (show i ≤ ops.size by omega) (Nat.le_refl _) fun j oj hij _ hj => hnw j oj hj hij
          · have : Nat.blt t N = false := by
              cases hb : Nat.blt t N
              · rfl
              · exact absurd (Nat.le_of_ble_eq_true hb) htN
            unfold sel
            simp only [this]
            rfl
        obtain ⟨l1, l2⟩ := hlk i o ho hk (by rw [hsel]; exact e3)
        rw [hsel, ← e2] at l1 l2
        refine .inl ?_
        -- effects that stand between were not ordered to it
        have ndesc : ∀ (j : Nat) (oj : Oper), ops[j]? = some oj → listed.getD j false = true → ancB (masks ops.toList []) i j = false := by
          intro j oj hj hl
          cases hc : ancB (masks ops.toList []) i j
          · rfl
          · have := (anc_listed hok I.cl j oj hj (I.cl j oj hj hl) i hc).2
            rw [hu] at this; cases this
        have nanc : ∀ j, listed.getD j false = false ∨ i ≤ j → ancB (masks ops.toList []) j i = false := by
          intro j hj
          cases hc : ancB (masks ops.toList []) j i
          · rfl
          · have := anc_listed hok I.cl i o ho hed j hc
            rcases hj with hj | hj
            · rw [hj] at this; cases this.2
            · omega
        have nanc' : ∀ (j : Nat) (oj : Oper), ops[j]? = some oj → j < i → ancB (masks ops.toList []) i j = false := by
          intro j
          induction j using Nat.strongRecOn with
          | ind j ih =>
            intro oj hj hji
            cases hc : ancB (masks ops.toList []) i j
            · rfl
            · rw [anc_edge (ops := ops.toList) (by simpa using hj) (hok.back j oj hj)] at hc
              obtain ⟨e, w1, w2, w3⟩ := hc
              have hlt := hok.back j oj hj e w1 w2
              rcases w3 with w3 | w3
              · omega
              · obtain ⟨oe, hoe⟩ := at_lt (ops := ops) (show e.on < ops.size by omega)
                rw [ih e.on hlt oe hoe (by omega)] at w3
                cases w3
        rcases Nat.lt_or_ge i c with hic | hic
        · refine (mem_pres h hwb b l1 (show i ≤ c by omega) M.le fun j oj w1 w2 hj hkj => ?_).1 e1
          have hjl := (M.eff j oj hj hkj).2 w2
          exact l2 j oj hj hkj (ndesc j oj hj hjl) (nanc j (.inr w1))
        · refine (mem_pres h hwb b l1 hic (by omega) fun j oj w1 w2 hj hkj => ?_).2 e1
          have hjl : listed.getD j false = false := by
            cases hc : listed.getD j false
            · rfl
            · have := (M.eff j oj hj hkj).1 hc; omega
          exact l2 j oj hj hkj (nanc' j oj hj w2) (nanc j (.inl hjl))
      obtain ⟨v', e1, e2⟩ := q3 T s _ a hTi M.rel hB env
      refine e1 K Q fun u w ⟨hu1, hw1⟩ => ?_
      rw [hw1, hu1]
      exact hK _ s (I.step hok ho hed (Le.refl s) e2 ⟨c, M.quiet hi ho (by omega) fun b ⟨o', ho', q, _⟩ => by rw [ho] at ho'; cases ho'; omega⟩ fr0)
    · have hsn : s.sg (f i).m.nx = none := I.fr i o ho hu _ (Nat.le_refl _) (by omega)
      obtain ⟨cells, v', e1, e2, e3, e4⟩ := q7 T s a hTi env M.rel.kin hsn
      refine e1 K Q fun u w ⟨hu1, hw1⟩ => ?_
      rw [hw1, hu1]
      have hci : c ≤ i := by
        rcases Nat.lt_or_ge i c with q | q
        · have := M.new i o ho hk q
          rw [hu] at this; cases this
        · exact q
      have hnb : ∀ b, NewB P ops f i b ↔ b = b0 := by
        intro b
        constructor
        · rintro ⟨_, _, _, _, w1, w2⟩
          rw [q2, List.mem_cons] at w1
          rcases w1 with w1 | w1
          · exact w1
          · have := hs.ok.nmb b w1; omega
        · rintro rfl
          exact ⟨o, ho, hk, ht, by rw [q2]; exact List.mem_cons_self, q3⟩
      have hsd : ∀ b, SD P ops f c (listed.setIfInBounds i true) b ↔ b = b0 ∨ SD P ops f c listed b := by
        intro b
        unfold SD
        constructor
        · rintro (hb | ⟨j, w1, w2, w3⟩)
          · exact .inr (.inl hb)
          · by_cases hji : j = i
            · subst hji; exact .inl ((hnb b).1 w3)
            · rw [getD_set_ne hi hji] at w2
              exact .inr (.inr ⟨j, w1, w2, w3⟩)
        · rintro (rfl | hb | ⟨j, w1, w2, w3⟩)
          · exact .inr ⟨i, hci, getD_set_self hi, (hnb _).2 rfl⟩
          · exact .inl hb
          · exact .inr ⟨j, w1, getD_set_of hi w2, w3⟩
      obtain ⟨R1, E1⟩ := RelS.new M.rel (b := b0) (cells := cells) (by rw [q3]; exact hsn) e2 e3
      rw [q3] at R1 E1
      have hle := Le.new s (f i).m.nx (.cells cells b0.el) hsn M.rel.kin
      have hm1 := (tr_mono h (Nat.zero_le i) (show i ≤ ops.size by omega)).1
      have hm2 := (tr_mono h (show i + 1 ≤ ops.size by omega) (Nat.le_refl _)).1
      rw [(tr_step h ho).2.2.1, q4] at hm2
      refine hK _ (s.new (f i).m.nx (.cells cells b0.el)) (I.step hok ho hed hle e4 ⟨c, M.le, fun j oj hj hkj => ?_, fun j oj hj hkj hjc => getD_set_of hi (M.new j oj hj hkj hjc), R1.congr hsd, ?_⟩ ?_)
      · rw [getD_set_ne hi (by rintro rfl; rw [ho] at hj; cases hj; omega)]
        exact M.eff j oj hj hkj
      · exact (M.evo.trans' (E1.wide hm1 hm2)).congr (fun _ => Iff.rfl) fun b hb => (hsd b).1 hb
      · intro j oj hj hji hl n w1 w2
        show (if n = (f i).m.nx then _ else s.sg n) = none
        rw [if_neg (fun e => disj h ho hj hji (n := n) (by omega) (by omega) ⟨w1, w2⟩)]
        exact I.fr j oj hj hl n w1 w2
    · have hsd := eff_sd M h hok I.cl ho hu hed hk
      have R0 : RelS P hole s (fun b => b ∈ (f i).m.hp ∨ ∃ j, i + 1 ≤ j ∧ listed.getD j false = true ∧ NewB P ops f j b) := M.rel.congr fun b => (hsd b).symm
      have hm1 := (tr_mono h (Nat.zero_le i) (show i ≤ ops.size by omega)).1
      have hm2 := (tr_mono h (show i + 1 ≤ ops.size by omega) (Nat.le_refl _)).1
      rw [(tr_step h ho).2.2.1] at hm2
      refine q2 T s a hTi env (R0.sub fun b hb => .inl hb) (I.fr i o ho hu) K Q fun u w ⟨s', g1, g2, g3, g4⟩ => ?_
      rw [← g1]
      obtain ⟨R1, E1, hle⟩ := frame_ok R0 g2 g4 (fun b ⟨j, w1, w2, w3⟩ hb => by
        obtain ⟨_, _, _, _, _, w4⟩ := w3
        have := hs.ok.nmb b hb
        have := (tr_mono h (show i ≤ j by omega) (by have := NewB.lt ⟨_, by assumption, by assumption, by assumption, by assumption, w4⟩; omega)).1
        omega)
      refine hK _ s' (I.step hok ho hed hle g3 ⟨i + 1, eff_mem M h hok hi I.cl ho hu hed hk R1 ?_⟩ ?_)
      · exact (M.evo.congr (fun _ => Iff.rfl) fun b hb => (hsd b).2 hb).trans' (E1.wide hm1 hm2)
      · intro j oj hj hji hl n w1 w2
        have hn : s'.sg n = s.sg n := by
          by_cases he : s'.sg n = s.sg n
          · exact he
          · have := g4.sgn n he
            exact absurd ⟨w1, w2⟩ (disj h ho hj hji this.1 this.2)
        rw [hn]
        exact I.fr j oj hj hl n w1 w2

/-! ### all steps -/
def unl (ops : Array Oper) (listed : Array Bool) : Nat := ((List.range ops.size).filter fun j => !listed.getD j false).length
theorem filter_lt {p q : Nat → Bool} : ∀ (l : List Nat), (∀ x, q x = true → p x = true) → (∃ x ∈ l, p x = true ∧ q x = false) → (l.filter q).length < (l.filter p).length := by
  intro l
  have mono : ∀ (l : List Nat), (∀ x, q x = true → p x = true) → (l.filter q).length ≤ (l.filter p).length := by
    intro l hpq
    induction l with
    | nil => simp
    | cons x l ih =>
      rw [List.filter_cons, List.filter_cons]
      cases hq : q x
      · cases hp : p x <;> simp <;> omega
      · simp [hpq x hq]; exact ih
  induction l with
  | nil => rintro _ ⟨x, hx, _⟩; cases hx
  | cons y l ih =>
    rintro hpq ⟨x, hx, h1, h2⟩
    rw [List.filter_cons, List.filter_cons]
    rcases List.mem_cons.1 hx with rfl | hx
    · rw [h1, h2]
      have := mono l hpq
      simp; omega
    · have := ih hpq ⟨x, hx, h1, h2⟩
      cases hq : q y
      · cases hp : p y <;> simp <;> omega
      · simp [hpq y hq]; exact this
theorem unl_set {listed : Array Bool} {i : Nat} (hi : i < listed.size) (hi' : i < ops.size) (hu : listed.getD i false = false) : unl ops (listed.setIfInBounds i true) < unl ops listed := by
  refine filter_lt _ (fun x hx => ?_) ⟨i, by simpa using hi', by rw [hu]; rfl, by rw [getD_set_self hi]; rfl⟩
  rw [getD_set hi] at hx
  split at hx
  · cases hx
  · exact hx
theorem all_listed (hok : OkD P ops) {listed : Array Bool} (hsz : listed.size = ops.size) (hr : Region.ready .any ops listed = []) : ∀ (j : Nat), j < ops.size → listed.getD j false = true := by
  intro j
  induction j using Nat.strongRecOn with
  | ind j ih =>
    intro hj
    obtain ⟨o, ho⟩ := at_lt hj
    cases hc : listed.getD j false
    · have : j ∈ Region.ready .any ops listed := mem_ready.2 ⟨by
        rw [Array.getD_eq_getD_getElem?] at hc ⊢
        rw [Array.getElem?_eq_getElem (by omega)] at hc ⊢
        exact hc, o, ho, fun e he hb => ih e.on (hok.back j o ho e he hb) (by have := hok.back j o ho e he hb; omega)⟩
      rw [hr] at this; cases this
    · rfl
theorem draw_all (h : Tr P hole N ops f) (hok : OkD P ops) (hwb : (f 0).m.wb = (f 0).m.nx) (hlk : LookOK P N ops f) {T : List Nat} (hT : Suf (f ops.size).m.ag T) {s0 : St} {a0 : Act} {Q : Exit → Act → World → Prop}
    (hQ : ∀ listed a s, Inv P hole N ops f T s0 a0 listed a s → (∀ j, j < ops.size → listed.getD j false = true) → Q .normal a s.w) :
    ∀ (fuel : Nat) (listed : Array Bool) (a : Act) (s : St), Inv P hole N ops f T s0 a0 listed a s → unl ops listed ≤ fuel → wpAny P .any ops Q fuel listed a s.w := by
  intro fuel
  induction fuel with
  | zero =>
    intro listed a s I hf
    have hr : Region.ready .any ops listed = [] := by
      cases hc : Region.ready .any ops listed with
      | nil => rfl
      | cons i r =>
        obtain ⟨o, ho, hi, hu, _⟩ := ready_of (ops := ops) (listed := listed) (i := i) (by rw [hc]; exact List.mem_cons_self)
        have := unl_set (ops := ops) hi (lt_at ho) hu
        omega
    exact ⟨hr, hQ listed a s I (all_listed hok I.sz hr)⟩
  | succ fuel ih =>
    intro listed a s I hf
    refine ⟨fun hr => hQ listed a s I (all_listed hok I.sz hr), fun i hi => ?_⟩
    obtain ⟨o, ho, hi', hu, _⟩ := ready_of hi
    exact one_step h hok hwb hlk hT I hi fun a' s' I' => ih _ a' s' I' (by have := unl_set (ops := ops) hi' (lt_at ho) hu; omega)
end
end Go.Proofs.YgvaqwGreat.Ev
