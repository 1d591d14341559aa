/- The program's own facts; the tables of the hash's small functions. -/
import Derived.Test.YgvaqwGreatProg
import Derived.KernelRfl
import Derived.Test.YgvaqwGreatEwM
set_option maxRecDepth 100000
namespace Go.Proofs.YgvaqwGreat.Ev
open Go Go.Proofs

theorem orders : Hvaq.prog.follows .mixedOrders = true := by kernel_rfl
theorem names_all : (Hvaq.prog.funcs.toList.all fun fn => !(fn.name == "runtime.NumGoroutine")) = true := by kernel_rfl
theorem names (g : Nat) (fn : Func) (h : Hvaq.prog.funcs[g]? = some fn) : (fn.name == "runtime.NumGoroutine") = false := by
  have := List.all_eq_true.1 names_all fn (by
    obtain ⟨hi, rfl⟩ := Array.getElem?_eq_some_iff.1 h
    exact Array.getElem_mem_toList hi)
  simpa using this

def noOrc : Nat → Option Orc := fun _ => none
def call0 (P : Program) : CallF := run P noOrc 3000
theorem call0_ok (hole : Nat) : CallOK Hvaq.prog hole (call0 Hvaq.prog) := run_ok orders names (fun g o h => by cases h) 3000

def tabBit : List Bkt := [[(9, [5]), (41, [37])]]
def bktConst0 : Bkt := [(5, [40]), (261, [4424]), (517, [295147905179353874504])]
def bktConst1 : Bkt := [(37, [1052744]), (293, [4360]), (549, [295147905179352829960])]
def bktConst2 : Bkt := [(69, [295147905179353878856]), (325, [68720525608]), (581, [1048904])]
def bktConst3 : Bkt := [(101, [295147905248073351176]), (357, [68719477064]), (613, [295147905248072302920])]
def bktConst4 : Bkt := [(133, [1053032]), (389, [68720529768]), (645, [295147905248073355304])]
def bktConst5 : Bkt := [(165, [68719476776]), (421, [295147905179352830312]), (677, [295147905179353878536])]
def bktConst6 : Bkt := [(197, [295147905248073355304]), (453, [295147905179353878824]), (709, [68719476776])]
def bktConst7 : Bkt := [(229, [295147905179353874728]), (485, [295147905179353874536]), (741, [295147905248073351432])]
def tabConst : List Bkt := [bktConst0, bktConst1, bktConst2, bktConst3, bktConst4, bktConst5, bktConst6, bktConst7]
def tabOff : List Bkt := [[(10679935179604550411975108530847760573013522611783263849735208039111098628903202750114810434682885, [5]),
  (79031520329073673048615803128273428240300067327196152488040539489422129853883700350849597216653317, [1157]),
  (147383105478542795685256497725699095907586612042609041126345870939733161078864197951584383998623749, [101]),
  (215734690628011918321897192323124763574873156758021929764651202390044192303844695552319170780594181, [1317]),
  (284086275777481040958537886920550431242159701473434818402956533840355223528825193153053957562564613, [581]),
  (10679935179604550411975108530847760573013522611783263849735208039111098628903202750114810434682917, [37]),
  (79031520329073673048615803128273428240300067327196152488040539489422129853883700350849597216653349, [1413]),
  (147383105478542795685256497725699095907586612042609041126345870939733161078864197951584383998623781, [325]),
  (215734690628011918321897192323124763574873156758021929764651202390044192303844695552319170780594213, [1445]),
  (284086275777481040958537886920550431242159701473434818402956533840355223528825193153053957562564645, [69]),
  (10679935179604550411975108530847760573013522611783263849735208039111098628903202750114810434682949, [1989]),
  (79031520329073673048615803128273428240300067327196152488040539489422129853883700350849597216653381, [197]),
  (147383105478542795685256497725699095907586612042609041126345870939733161078864197951584383998623813, [1381]),
  (215734690628011918321897192323124763574873156758021929764651202390044192303844695552319170780594245, [485]),
  (284086275777481040958537886920550431242159701473434818402956533840355223528825193153053957562564677, [1957]),
  (10679935179604550411975108530847760573013522611783263849735208039111098628903202750114810434682981, [901]),
  (79031520329073673048615803128273428240300067327196152488040539489422129853883700350849597216653413, [1765]),
  (147383105478542795685256497725699095907586612042609041126345870939733161078864197951584383998623845, [805]),
  (215734690628011918321897192323124763574873156758021929764651202390044192303844695552319170780594277, [677]),
  (284086275777481040958537886920550431242159701473434818402956533840355223528825193153053957562564709, [1797]),
  (10679935179604550411975108530847760573013522611783263849735208039111098628903202750114810434683013, [869]),
  (79031520329073673048615803128273428240300067327196152488040539489422129853883700350849597216653445, [645]),
  (147383105478542795685256497725699095907586612042609041126345870939733161078864197951584383998623877, [1253]),
  (215734690628011918321897192323124763574873156758021929764651202390044192303844695552319170780594309, [261]),
  (284086275777481040958537886920550431242159701473434818402956533840355223528825193153053957562564741, [453])]]
theorem chkBit : (tabBit.all (chkB (call0 Hvaq.prog) 160 1)) = true := by kernel_rfl
theorem chkConst0 : chkB (call0 Hvaq.prog) 161 1 bktConst0 = true := by kernel_rfl
theorem chkConst1 : chkB (call0 Hvaq.prog) 161 1 bktConst1 = true := by kernel_rfl
theorem chkConst2 : chkB (call0 Hvaq.prog) 161 1 bktConst2 = true := by kernel_rfl
theorem chkConst3 : chkB (call0 Hvaq.prog) 161 1 bktConst3 = true := by kernel_rfl
theorem chkConst4 : chkB (call0 Hvaq.prog) 161 1 bktConst4 = true := by kernel_rfl
theorem chkConst5 : chkB (call0 Hvaq.prog) 161 1 bktConst5 = true := by kernel_rfl
theorem chkConst6 : chkB (call0 Hvaq.prog) 161 1 bktConst6 = true := by kernel_rfl
theorem chkConst7 : chkB (call0 Hvaq.prog) 161 1 bktConst7 = true := by kernel_rfl
theorem chkConst : (tabConst.all (chkB (call0 Hvaq.prog) 161 1)) = true := by
  simp only [tabConst, List.all_cons, List.all_nil, chkConst0, chkConst1, chkConst2, chkConst3, chkConst4, chkConst5, chkConst6, chkConst7, Bool.and_true]
theorem chkOff : (tabOff.all (chkB (call0 Hvaq.prog) 159 2)) = true := by kernel_rfl

def orcBit : Orc := fun args m => match args with
  | [e] => Bool.casesOn (Nat.beq e 41) (Bool.casesOn (Nat.beq e 9) none (some (5, m))) (some (37, m))
  | _ => none
theorem orcBit_ok (hole : Nat) : OrcOK Hvaq.prog hole 160 orcBit := by
  intro args m v m' h hm hargs
  refine memo0_ok (call0_ok hole) (nb := 1) (List.all_eq_true.1 chkBit) args m v m' ?_ hm hargs
  unfold orcBit at h
  split at h
  · rename_i e
    cases h1 : Nat.beq e 41
    · rw [h1] at h
      obtain ⟨h2, h3⟩ := bc h
      rw [show e = 9 from beq_t h2, ← h3]
      rfl
    · rw [h1] at h
      rw [show e = 41 from beq_t h1, ← h]
      rfl
  · cases h
def orcK : Nat → Option Orc
  | 160 => some orcBit
  | 161 => some (memo0 1 8 tabConst)
  | 159 => some (memo0 2 1 tabOff)
  | _ => none
theorem orcK_ok (hole g : Nat) (o : Orc) (h : orcK g = some o) : OrcOK Hvaq.prog hole g o := by
  unfold orcK at h
  split at h
  · cases h; exact orcBit_ok hole
  · cases h; exact memo0_ok (call0_ok hole) (List.all_eq_true.1 chkConst)
  · cases h; exact memo0_ok (call0_ok hole) (List.all_eq_true.1 chkOff)
  · cases h
def callS (P : Program) : CallF := run P orcK 3000
theorem callS_ok (hole : Nat) : CallOK Hvaq.prog hole (callS Hvaq.prog) := run_ok orders names (orcK_ok hole) 3000

/-! ### the permutation's pieces -/
def bodyOf (P : Program) (g : Nat) : Code := match P.funcs[g]? with
  | some fn => fn.body.getD .skip
  | none => .skip
def restF (P : Program) : Code := (spine 3 (bodyOf P 115)).2
def EsF (i : Nat) : Nat := Nat.shiftLeft (Nat.add 10 (Nat.add (Nat.mul 42 (Nat.shiftLeft 1 640)) (Nat.mul (Nat.add 5 (Nat.mul 32 i)) (Nat.shiftLeft 1 1600)))) 320
def E1F : Nat := Nat.shiftLeft (Nat.add 10 (Nat.mul 42 (Nat.shiftLeft 1 640))) 320
def msF (x a i : Nat) : Mem := ⟨[⟨1, 1600, expB 1600 a, 207, 0⟩, blkF0 1600 186 x], Nat.add 2 (Nat.mul 11 i), [], 0, 0, []⟩
end Go.Proofs.YgvaqwGreat.Ev
