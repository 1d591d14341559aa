/- What an operation reads of the temporaries; what it does, told for every kind; calls. -/
import Derived.Test.YgvaqwGreatEvS
set_option exponentiation.threshold 400
namespace Go.Proofs.YgvaqwGreat.Ev
open Go
section
variable {P : Program} {hole N : Nat}

/-! ### an operation reads its operands alone -/
def ExtF (F : OpF) (E E' : Nat) : Prop := ∀ call m k, F.fn call E m k = F.fn call E' m k
theorem ext_bad {E E' : Nat} : ExtF bad E E' := fun _ _ _ => rfl
theorem ext_uop {x : Sel} {g : Nat → Mem → KV → R} {E E' : Nat} (h : x.fn E = x.fn E') : ExtF (uop x g) E E' := fun _ m k => by show g _ m k = g _ m k; rw [h]
theorem ext_bop {x y : Sel} {g : Nat → Nat → Mem → KV → R} {E E' : Nat} (h : x.fn E = x.fn E') (h' : y.fn E = y.fn E') : ExtF (bop x y g) E E' := fun _ m k => by show g _ _ m k = g _ _ m k; rw [h, h']
theorem ext_cmp {kd : IntKind} {u : Nat → Nat → Nat → Mem → KV → R} {s : Nat → Nat → Nat → Nat → Nat → Mem → KV → R} {x y : Sel} {E E' : Nat} (h : x.fn E = x.fn E') (h' : y.fn E = y.fn E') : ExtF (cmpF kd u s x y) E E' := by
  unfold cmpF
  split
  · exact ext_bop h h'
  · simp only [forceN_eq]; exact ext_bop h h'
theorem ext_binF {op : BinOp} {kd : IntKind} {x y : Sel} {E E' : Nat} (h : x.fn E = x.fn E') (h' : y.fn E = y.fn E') : ExtF (binF op kd x y) E E' := by
  unfold binF
  simp only [forceN_eq]
  split
  all_goals first
    | exact ext_bop h h'
    | exact ext_cmp h h'
    | exact ext_cmp h' h
    | exact ext_bad
    | (split; exact ext_bop h h'; exact ext_bad)
theorem ext_eqF {op : BinOp} {x y : Sel} {e n : Nat → Nat → Mem → KV → R} {E E' : Nat} (h : x.fn E = x.fn E') (h' : y.fn E = y.fn E') : ExtF (eqF op x y e n) E E' := by
  unfold eqF
  split
  · exact ext_bop h h'
  · exact ext_bop h h'
  · exact ext_bad
theorem ext_binAny {op : BinOp} {t : TypeId} {x y : Sel} {E E' : Nat} (h : x.fn E = x.fn E') (h' : y.fn E = y.fn E') : ExtF (binAny P op t x y) E E' := by
  unfold binAny
  split
  · exact ext_binF h h'
  · exact ext_eqF h h'
  · unfold strF
    split
    · exact ext_bop h h'
    · exact ext_bop h h'
    · exact ext_bad
  · split
    · split
      · exact ext_eqF h h'
      · exact ext_bad
    · exact ext_bad
  · exact ext_eqF h h'
  · exact ext_eqF h h'
  · exact ext_bad
theorem ext_fill {M E E' : Nat} {place : Nat → Option (Nat × Nat)} : ∀ {parts : List (Nat × Operand)}, (∀ p ∈ parts, (sel N p.2).fn E = (sel N p.2).fn E') → ∀ m c k, (fillF N M place parts).fn E m c k = (fillF N M place parts).fn E' m c k := by
  intro parts
  induction parts with
  | nil => intro _ m c k; rfl
  | cons p r ih =>
    intro h m c k
    unfold fillF
    split
    · split
      · simp only [fill1]
        rw [h p (by simp)]
        congr 1
        funext q
        exact ih (fun p' hp' => h p' (by simp [hp'])) m _ k
      · rfl
    · rfl
theorem ext_opt {E E' : Nat} {y : Option Operand} (h : ∀ z, y = some z → (sel N z).fn E = (sel N z).fn E') (d : Nat) (k : Nat → R) : (optF N y).fn d E k = (optF N y).fn d E' k := by
  cases y with
  | none => rfl
  | some z => show natK _ k = natK _ k; rw [h z rfl]
theorem ext_slLoose {E E' e : Nat} {lo hi : Option Operand} (h1 : ∀ z, lo = some z → (sel N z).fn E = (sel N z).fn E') (h2 : ∀ z, hi = some z → (sel N z).fn E = (sel N z).fn E') (m : Mem) (k : KV) :
    slLoose (optF N lo) (optF N hi) E e m k = slLoose (optF N lo) (optF N hi) E' e m k := by
  unfold slLoose
  rw [ext_opt h2]
  congr 1
  funext y
  rw [ext_opt h1]
theorem ext_sliceK {t size nm off len cap E E' : Nat} {lo hi mx : Option Operand} (h1 : ∀ z, lo = some z → (sel N z).fn E = (sel N z).fn E') (h2 : ∀ z, hi = some z → (sel N z).fn E = (sel N z).fn E')
    (h3 : ∀ z, mx = some z → (sel N z).fn E = (sel N z).fn E') (m : Mem) (k : KV) : sliceK t size nm off len cap E (optF N lo) (optF N hi) (optF N mx) m k = sliceK t size nm off len cap E' (optF N lo) (optF N hi) (optF N mx) m k := by
  unfold sliceK
  rw [ext_opt h3]
  congr 1
  funext x
  rw [ext_opt h2]
  congr 1
  funext y
  rw [ext_opt h1]
theorem ext_slNil {E E' : Nat} {lo hi mx : Option Operand} (h1 : ∀ z, lo = some z → (sel N z).fn E = (sel N z).fn E') (h2 : ∀ z, hi = some z → (sel N z).fn E = (sel N z).fn E')
    (h3 : ∀ z, mx = some z → (sel N z).fn E = (sel N z).fn E') (m : Mem) (k : KV) : slNil (optF N lo) (optF N hi) (optF N mx) E m k = slNil (optF N lo) (optF N hi) (optF N mx) E' m k := by
  unfold slNil
  rw [ext_opt h3]
  congr 1
  funext x
  rw [ext_opt h2]
  congr 1
  funext y
  rw [ext_opt h1]
theorem ext_slNum {E E' e : Nat} {lo hi mx : Option Operand} (h1 : ∀ z, lo = some z → (sel N z).fn E = (sel N z).fn E') (h2 : ∀ z, hi = some z → (sel N z).fn E = (sel N z).fn E')
    (h3 : ∀ z, mx = some z → (sel N z).fn E = (sel N z).fn E') (m : Mem) (k : KV) : slNum (optF N lo) (optF N hi) (optF N mx) E e m k = slNum (optF N lo) (optF N hi) (optF N mx) E' e m k := by
  unfold slNum
  rw [ext_opt h3]
  congr 2
  funext x
  rw [ext_opt h2]
  congr 1
  funext y
  rw [ext_opt h1]
theorem ext_slice {t : TypeId} {x : Operand} {lo hi mx : Option Operand} {E E' : Nat} (h0 : (sel N x).fn E = (sel N x).fn E') (h1 : ∀ z, lo = some z → (sel N z).fn E = (sel N z).fn E') (h2 : ∀ z, hi = some z → (sel N z).fn E = (sel N z).fn E')
    (h3 : ∀ z, mx = some z → (sel N z).fn E = (sel N z).fn E') : ExtF (sliceF P N t (sel N x) lo hi mx) E E' := by
  unfold sliceF
  split
  · unfold slArrF
    split
    · exact ext_bad
    · intro call m k
      show slArr _ _ _ _ _ _ _ m k = slArr _ _ _ _ _ _ _ m k
      unfold slArr
      rw [h0, ext_sliceK h1 h2 h3]
    · exact ext_bad
  · split
    · intro call m k
      show slMax _ _ _ _ _ _ m k = slMax _ _ _ _ _ _ m k
      unfold slMax
      rw [h0, ext_sliceK h1 h2 h3, ext_slNil h1 h2 h3, ext_slNum h1 h2 h3]
    · intro call m k
      show slBare _ _ _ _ _ _ m k = slBare _ _ _ _ _ _ m k
      unfold slBare
      rw [h0, ext_sliceK h1 h2 h3, ext_slNil h1 h2 h3, ext_slLoose h1 h2, ext_slNum h1 h2 h3]
    · exact ext_bad
  · exact ext_bad
theorem ext_args {E E' : Nat} : ∀ {l : List Operand}, (∀ z ∈ l, (sel N z).fn E = (sel N z).fn E') → (argsF N l).fn E = (argsF N l).fn E' := by
  intro l
  induction l with
  | nil => intro _; rfl
  | cons x r ih =>
    intro h
    show _ :: _ = _ :: _
    rw [h x (by simp), ih fun z hz => h z (by simp [hz])]
theorem ext_szF {t : TypeId} {g : Nat → OpF} {E E' : Nat} (h : ∀ s, ExtF (g s) E E') : ExtF (szF P t g) E E' := szF_split (C := fun F => ExtF F E E') ext_bad fun s _ => h s
theorem ext_build {n z E E' : Nat} {place : Nat → Option (Nat × Nat)} {parts : List (Nat × Operand)} (h : ∀ p ∈ parts, (sel N p.2).fn E = (sel N p.2).fn E') : ExtF (buildF n z (fillF N n place parts)) E E' :=
  fun _ m _ => ext_fill h m z _
theorem ext_bsl {e n len z M E E' : Nat} {place : Nat → Option (Nat × Nat)} {parts : List (Nat × Operand)} (h : ∀ p ∈ parts, (sel N p.2).fn E = (sel N p.2).fn E') : ExtF (bslF e n len z (fillF N M place parts)) E E' :=
  fun _ m _ => ext_fill h m z _
theorem ext_builtin {b : Builtin} {args : List Operand} {ts : List TypeId} {E E' : Nat} (h : ∀ z ∈ args, (sel N z).fn E = (sel N z).fn E') : ExtF (builtinF P N b args ts) E E' := by
  unfold builtinF
  split
  · unfold lenF
    have h0 := h _ (List.mem_singleton.2 rfl)
    have hl : ∀ n, ExtF (lenA n) E E' := fun n => by
      unfold lenA
      split
      · rw [forceN_eq]; exact fun _ _ _ => rfl
      · exact ext_bad
    split
    · exact ext_uop h0
    · exact hl _
    · split
      · exact hl _
      · exact ext_bad
    · exact ext_bad
  · split
    · refine slE_split (C := fun F => ExtF F E E') ext_bad fun e w _ _ => ?_
      unfold appF
      split
      · split
        · split
          · exact ext_bop (h _ (by simp)) (h _ (by simp))
          · exact ext_bad
        · exact ext_bad
      · exact ext_bad
    · exact ext_bad
  · exact slE_split (C := fun F => ExtF F E E') ext_bad fun e w _ _ => ext_bop (h _ (by simp)) (h _ (by simp))
  · exact ext_bop (h _ (by simp)) (h _ (by simp))
  · exact ext_bad

theorem opF_ext (o : Op) {E E' : Nat} (h : ∀ z ∈ o.operands, (sel N z).fn E = (sel N z).fn E') : ExtF (opF P N o) E E' := by
  cases o <;> simp only [opF] <;> simp only [Op.operands] at h
  case move x => exact ext_uop (h x (by simp))
  case assign x => exact ext_uop (h x (by simp))
  case pick c x y => exact fun _ m k => by show pick3 _ _ _ m k = pick3 _ _ _ m k; rw [h c (by simp), h x (by simp), h y (by simp)]
  case alloc t =>
    split
    · exact fun _ _ _ => rfl
    · exact ext_bad
  case box t x =>
    split
    · exact ext_uop (h x (by simp))
    · exact ext_bad
  case build t parts =>
    have h' : ∀ p ∈ parts.toList, (sel N p.2).fn E = (sel N p.2).fn E' := fun p hp => h p.2 (by simp; exact ⟨p.1, by simpa using hp⟩)
    split
    · split
      · exact ext_build h'
      · exact ext_bad
    · split
      · exact ext_build h'
      · exact ext_bad
    · exact ext_bad
  case buildSlice t len parts =>
    have h' : ∀ p ∈ parts.toList, (sel N p.2).fn E = (sel N p.2).fn E' := fun p hp => h p.2 (by simp; exact ⟨p.1, by simpa using hp⟩)
    split
    · split
      · split
        · exact ext_bsl h'
        · exact ext_bad
      · exact ext_bad
    · exact ext_bad
  case load t x =>
    refine ext_szF fun s => ?_
    cases s
    · exact ext_uop (h x (by simp))
    · exact ext_uop (h x (by simp))
  case store t x y =>
    refine ext_szF fun s => ?_
    unfold stF
    split
    · exact ext_bop (h x (by simp)) (h y (by simp))
    · exact ext_bop (h x (by simp)) (h y (by simp))
    · exact ext_bad
  case nilCheck x => exact ext_uop (h x (by simp))
  case binOp op t x y pp => exact ext_binAny (h x (by simp)) (h y (by simp))
  case unOp op t x =>
    unfold unF
    split
    · exact ext_uop (h x (by simp))
    · split
      · exact ext_uop (h x (by simp))
      · exact ext_bad
    · exact ext_bad
  case convert s d x =>
    have h0 := h x (by simp)
    unfold convF
    simp only [forceN_eq]
    split
    · split
      · split
        · exact ext_uop h0
        · exact ext_uop h0
        · exact ext_bad
      · exact ext_bad
    · split
      · split
        · exact ext_uop h0
        · exact ext_bad
      · exact ext_bad
    · exact ext_bad
  case sliceToArrayPointer d x =>
    split
    · exact ext_uop (h x (by simp))
    · exact ext_bad
  case makeSlice t l c =>
    split
    · split
      · split
        · exact ext_bop (h l (by simp)) (h c (by simp))
        · exact ext_bad
      · exact ext_bad
    · exact ext_bad
  case slice t x lo hi mx => exact ext_slice (h x (by simp)) (fun z hz => h z (by simp [hz])) (fun z hz => h z (by simp [hz])) (fun z hz => h z (by simp [hz]))
  case fieldAddr t x i =>
    refine fieldOf_split (C := fun F => ExtF F E E') ext_bad fun fields fd _ _ => ?_
    split
    · rw [forceN_eq]; exact ext_uop (h x (by simp))
    · exact ext_bad
  case field t x i =>
    refine fieldOf_split (C := fun F => ExtF F E E') ext_bad fun fields fd _ _ => ext_szF fun s => ?_
    cases s
    · exact ext_uop (h x (by simp))
    · exact ext_uop (h x (by simp))
  case indexAddr t x i =>
    split
    · split
      · rw [forceN_eq]; exact ext_bop (h x (by simp)) (h i (by simp))
      · exact ext_bad
    · split
      · exact ext_bop (h x (by simp)) (h i (by simp))
      · exact ext_bad
    · exact ext_bad
  case index t x i =>
    split
    · refine ext_szF fun s => ?_
      unfold ixF
      split
      · exact ext_bop (h x (by simp)) (h i (by simp))
      · exact ext_bop (h x (by simp)) (h i (by simp))
      · exact ext_bad
    · exact ext_bad
  case extract t i => exact ext_uop (h t (by simp))
  case call c =>
    have h' : ∀ z ∈ c.args.toList, (sel N z).fn E = (sel N z).fn E' := fun z hz => h z (by simp [Call.operands]; exact .inr (by simpa using hz))
    split
    · intro call m k
      simp only [callK]
      rw [ext_args h']
    · exact ext_builtin h'
    · exact ext_bad
  all_goals exact ext_bad
end
end Go.Proofs.YgvaqwGreat.Ev
