/- The evaluator: an abstract run of the model's own code, its values and memory packed into natural numbers, written so that the kernel runs it fast.
   Nothing here is trusted: its soundness against the model is proved in the texts behind. -/
import Derived.Orders
import Derived.Test.YgvaqwGreatEvA
namespace Go.Proofs.YgvaqwGreat.Ev
open Go

/-! ### lists -/
def lg (n : Nat) : List Nat → Nat :=
  Nat.rec (motive := fun _ => List Nat → Nat) (fun l => List.casesOn l 0 (fun a _ => a)) (fun _ ih l => List.casesOn l 0 (fun _ r => ih r)) n
/-- the number is reckoned first -/
def forceN {β : Type} (n : Nat) (k : Nat → β) : β := Nat.casesOn (Nat.add n 1) (k 0) (fun m => k m)
def isIn (x : Nat) : List Nat → Bool
  | [] => false
  | y :: r => Bool.casesOn (Nat.beq y x) (isIn x r) true

/-! ### codes of values: tag + 32 * payload
0: whatever it be · 1-8: integers, by their residue · 9: bool · 10: pointer · 11: nil pointer · 12: slice · 13: nil slice ·
14: a number's digits · 15: the byte that is left open · 16: a pointer to a digit · 17: a string of twenty bytes · 18: a slice of unknown capacity ·
20: an aggregate · 21: a tuple · 22: what is not there -/
def ktag (k : IntKind) : Nat := match k with
  | .i8 => 1 | .i16 => 2 | .i32 => 3 | .i64 => 4 | .u8 => 5 | .u16 => 6 | .u32 => 7 | .u64 => 8
def kmod (k : IntKind) : Nat := match k with
  | .i8 => 256 | .i16 => 65536 | .i32 => 4294967296 | .i64 => 18446744073709551616 | .u8 => 256 | .u16 => 65536 | .u32 => 4294967296 | .u64 => 18446744073709551616
def khalf (k : IntKind) : Nat := match k with
  | .i8 => 128 | .i16 => 32768 | .i32 => 2147483648 | .i64 => 9223372036854775808 | _ => 0
/-- the bound below which a residue is not negative -/
def kpos (k : IntKind) : Nat := match k with
  | .i8 => 128 | .i16 => 32768 | .i32 => 2147483648 | .i64 => 9223372036854775808 | .u8 => 256 | .u16 => 65536 | .u32 => 4294967296 | .u64 => 18446744073709551616
def encI (k : IntKind) (n : Int) : Nat := match n with
  | .ofNat m => ktag k + 32 * (m % kmod k)
  | .negSucc m => ktag k + 32 * (kmod k - 1 - m % kmod k)
def encV (v : Value) : Nat := match v with
  | .int k n => match decide (k.wrap n = n) with
    | true => encI k n
    | false => 0
  | .bool true => 41
  | .bool false => 9
  | .slice none 0 0 => 13
  | .pointer none => 11
  | _ => 0
def mkP (nm off : Nat) : Nat := Nat.add 10 (Nat.mul 32 (Nat.add nm (Nat.mul 4294967296 off)))
def mkS (t nm off len cap : Nat) : Nat := Nat.add t (Nat.mul 32 (Nat.add nm (Nat.mul 4294967296 (Nat.add off (Nat.mul 4294967296 (Nat.add len (Nat.mul 4294967296 cap)))))))
def mkG (t i n : Nat) : Nat := Nat.add t (Nat.mul 32 (Nat.add i (Nat.mul 4294967296 n)))
def nmOf (e : Nat) : Nat := Nat.mod (Nat.div e 32) 4294967296
def offP (e : Nat) : Nat := Nat.div e 137438953472
def offS (e : Nat) : Nat := Nat.mod (Nat.div e 137438953472) 4294967296
def lenS (e : Nat) : Nat := Nat.mod (Nat.div e 590295810358705651712) 4294967296
def capS (e : Nat) : Nat := Nat.div e 2535301200456458802993406410752

/-! ### memory -/
structure Blk where
  nm : Nat
  n : Nat
  c : Nat
  el : Nat
  kd : Nat
abbrev Hp := List Blk
/-- blocks · the next name · the aggregates, the last first, and their number · below which name a store is told, and what was told -/
structure Mem where
  hp : Hp
  nx : Nat
  ag : List Nat
  na : Nat
  wb : Nat
  wl : List Nat
abbrev R := Option (Nat × Mem)
abbrev KV := Nat → Mem → R
abbrev CallF := Nat → List Nat → Mem → R
def hfuel : Nat := 2000
def hdel (nm : Nat) (h : Hp) : Hp :=
  Nat.rec (motive := fun _ => Hp → Hp) (fun l => l) (fun _ ih l => List.casesOn l [] (fun b r => Bool.casesOn (Nat.beq b.nm nm) (b :: ih r) r)) hfuel h
def hget (nm : Nat) (h : Hp) (k : Blk → R) : R :=
  Nat.rec (motive := fun _ => Hp → R) (fun _ => none) (fun _ ih l => List.casesOn l none (fun b r => Bool.casesOn (Nat.beq b.nm nm) (ih r) (k b))) hfuel h
def tellN (wb : Nat) (wl : List Nat) (nm : Nat) : List Nat := Bool.casesOn (Nat.ble wb nm) (nm :: wl) wl
def tellW (m : Mem) (nm : Nat) : List Nat := tellN m.wb m.wl nm
/-- the block; it stands at the head behind it -/
def atB (nm : Nat) (m : Mem) (k : Blk → Mem → R) : R :=
  Mem.casesOn m fun hp nx ag na wb wl => List.casesOn hp none (fun b r => Bool.casesOn (Nat.beq b.nm nm) (hget nm r (fun c => k c ⟨c :: b :: hdel nm r, nx, ag, na, wb, wl⟩)) (k b ⟨hp, nx, ag, na, wb, wl⟩))
def agOf (m : Mem) (e : Nat) (k : Nat → R) : R := Bool.casesOn (Nat.ble (Nat.succ (nmOf e)) m.na) none (k (lg (Nat.sub (Nat.sub m.na 1) (nmOf e)) m.ag))
def newAg (t n p : Nat) (m : Mem) (k : KV) : R := Bool.casesOn (Nat.ble n 4294967295) none (Mem.casesOn m fun hp nx ag na wb wl => Bool.casesOn (Nat.ble na 4294967295) none (forceN p fun p => forceN (Nat.succ na) fun na' => k (mkG t na n) ⟨hp, nx, p :: ag, na', wb, wl⟩))
def newB (e n c t kd : Nat) (m : Mem) (k : KV) : R := Mem.casesOn m fun hp nx ag na wb wl => Bool.casesOn (Nat.ble nx 4294967295) none (forceN n fun n => forceN c fun c => forceN (Nat.succ nx) fun nx' => k e ⟨⟨nx, n, c, t, kd⟩ :: hp, nx', ag, na, wb, wl⟩)
/-- so that no two states look alike to the kernel's tables -/
def salt (k : Nat) : Nat := Nat.add 3 (Nat.mod (Nat.add (Nat.mul k 6364136223846793005) 1442695040888963407) 2305843009213693951)
/-- the block at the head written -/
def setBf (f : Nat → Nat) (b : Blk) (c : Nat) (m : Mem) (e : Nat) (k : KV) : R :=
  Mem.casesOn m fun hp nx ag na wb wl => List.casesOn hp none (fun _ r => Blk.casesOn b fun nm n _ el kd => forceN (f kd) fun kd => forceN c fun c => k e ⟨⟨nm, n, c, el, kd⟩ :: r, nx, ag, na, wb, tellN wb wl nm⟩)
def setB (b : Blk) (c : Nat) (m : Mem) (e : Nat) (k : KV) : R := setBf salt b c m e k

/-! ### what is static of types -/
def isAggD (d : TypeDesc) : Bool := match d with
  | .struct _ => true
  | .array _ _ => true
  | _ => false
/-- 0: one cell; n + 1: an aggregate of n cells -/
def sz (P : Program) (t : TypeId) : Option Nat := match P.underlying t with
  | some d => match P.info? t with
    | some i => some (match isAggD d with | true => i.size + 1 | false => 0)
    | none => none
  | none => none
/-- the cells of a type -/
def cl (P : Program) (t : TypeId) : Option Nat := match P.info? t with
  | some i => match i.size with
    | 0 => none
    | n + 1 => some (n + 1)
  | none => none
def packL (l : List Value) : Option Nat := match l with
  | [] => some 0
  | v :: r => match encV v, packL r with
    | 0, _ => none
    | e + 1, some n => some (e + 1 + cB * n)
    | _, none => none
/-- the zero value's cells and their number -/
def zeroP (P : Program) (t : TypeId) : Option (Nat × Nat) := match P.info? t with
  | some i => match i.zero with
    | some z => match packL z.cells.toList with
      | some p => some (z.cells.size, p)
      | none => none
    | none => none
  | none => none

structure Sel where
  fn : Nat → Nat
structure OpF where
  fn : CallF → Nat → Mem → KV → R
structure PutF where
  fn : Nat → Nat → Nat
def selT (s : Nat) : Sel := ⟨fun E => pgS E s⟩
def selC (c : Nat) : Sel := ⟨fun _ => c⟩
/-- N: how many temporaries there are -/
def sel (N : Nat) (x : Operand) : Sel := match x with
  | .tmp t => match Nat.blt t N with
    | true => forceN (Nat.mul 320 (t + 1)) selT
    | false => selC 0
  | .const v => forceN (encV v) selC
  | _ => selC 0
def bad : OpF := ⟨fun _ _ _ _ => none⟩
def chk (e t : Nat) (r : R) : R := Bool.casesOn (Nat.beq (Nat.mod e 32) t) none r
/-- one cell's value -/
def chkC (e : Nat) (r : R) : R := Bool.casesOn (Nat.ble (Nat.mod (Nat.add e 31) 32) 17) none r
/-- an aggregate: its number of cells, its cells -/
def aggK (e : Nat) (m : Mem) (k : Nat → Nat → R) : R := chk e 20 (agOf m e fun c => k (Nat.div e 137438953472) c)
def cellsK (n e : Nat) (m : Mem) (k : Nat → R) : R :=
  Bool.casesOn (Nat.beq (Nat.mod e 32) 20) (Bool.casesOn (Nat.beq n 1) none (chkC e (k e))) (Bool.casesOn (Nat.beq (Nat.div e 137438953472) n) none (agOf m e k))

/-! ### memory operations -/
def ld0 (e : Nat) (m : Mem) (k : KV) : R := Bool.casesOn (Nat.beq (Nat.mod e 32) 10)
  (chk e 16 (k (Nat.add 5 (Nat.mul 32 (Nat.mod (Nat.shiftRight (Nat.div e 2097152) (Nat.mul 8 (Nat.mod (Nat.div e 32) 65536))) 256))) m))
  (atB (nmOf e) m fun b m => Bool.casesOn (Nat.ble (Nat.succ (offP e)) b.n) none (k (pg b.c (offP e)) m))
def ldA (w e : Nat) (m : Mem) (k : KV) : R := chk e 10
  (atB (nmOf e) m fun b m => Bool.casesOn (Nat.ble (Nat.add (offP e) w) b.n) none (newAg 20 w (rgN b.c (offP e) w) m k))
def st0 (e v : Nat) (m : Mem) (k : KV) : R := chk e 10 (chkC v
  (atB (nmOf e) m fun b m => Bool.casesOn (Nat.ble (Nat.succ (offP e)) b.n) none (setB b (ps b.c (offP e) v) m 0 k)))
def stA (w e v : Nat) (m : Mem) (k : KV) : R := chk e 10 (aggK v m fun n p => Bool.casesOn (Nat.beq n w) none
  (atB (nmOf e) m fun b m => Bool.casesOn (Nat.ble (Nat.add (offP e) w) b.n) none (setB b (rp b.c (offP e) w p) m 0 k)))
def boxK (n t e : Nat) (m : Mem) (k : KV) : R := cellsK n e m fun c => newB (mkP m.nx 0) n c t 0 m k
def repN (z w n : Nat) : Nat := Nat.rec 0 (fun _ ih => Nat.add z (Nat.shiftLeft ih (Nat.mul 320 w))) n
def part0 (c n off : Nat) (m : Mem) (k : KV) : R := Bool.casesOn (Nat.ble (Nat.succ off) n) none (k (pg c off) m)
def partA (w c n off : Nat) (m : Mem) (k : KV) : R := Bool.casesOn (Nat.ble (Nat.add off w) n) none (newAg 20 w (rgN c off w) m k)

/-! ### composite literals -/
structure Fill where
  fn : Nat → Mem → Nat → (Nat → R) → R
def fill1 (x : Sel) (off w : Nat) (r : Fill) : Fill := ⟨fun E m c k => cellsK w (x.fn E) m fun q => r.fn E m (rp c off w q) k⟩
/-- M: how many cells there are to fill -/
def fillF (N M : Nat) (place : Nat → Option (Nat × Nat)) : List (Nat × Operand) → Fill
  | [] => ⟨fun _ _ c k => k c⟩
  | p :: r => match place p.1 with
    | some (off, w) => match Nat.ble (off + w) M with
      | true => fill1 (sel N p.2) off w (fillF N M place r)
      | false => ⟨fun _ _ _ _ => none⟩
    | none => ⟨fun _ _ _ _ => none⟩
def placeS (P : Program) (fields : List Field) (i : Nat) : Option (Nat × Nat) := match fields[i]? with
  | some fd => match cl P fd.type with
    | some w => some (fd.offset, w)
    | none => none
  | none => none

def bV (b : Bool) : Nat := Bool.casesOn b 9 41

/-! ### integers, on the codes themselves: t the tag, M 32 times the modulus, h 32 times the half -/
def addI (t M a b : Nat) (m : Mem) (k : KV) : R := chk a t (chk b t (k (Nat.add t (Nat.mod (Nat.sub (Nat.add a b) (Nat.add t t)) M)) m))
def subI (t M a b : Nat) (m : Mem) (k : KV) : R := chk a t (chk b t (k (Nat.add t (Nat.mod (Nat.sub (Nat.add a M) b) M)) m))
def mulI (t M a b : Nat) (m : Mem) (k : KV) : R := chk a t (chk b t (k (Nat.add t (Nat.mod (Nat.mul (Nat.sub a t) (Nat.div b 32)) M)) m))
/-- p: the bound below which they are not negative -/
def divI (t p a b : Nat) (m : Mem) (k : KV) : R := chk a t (chk b t (Bool.casesOn (Nat.ble (Nat.succ (Nat.div a 32)) p) none (Bool.casesOn (Nat.ble (Nat.succ (Nat.div b 32)) p) none
  (Bool.casesOn (Nat.beq b t) (k (Nat.add t (Nat.mul 32 (Nat.div (Nat.div a 32) (Nat.div b 32)))) m) none))))
def remI (t p a b : Nat) (m : Mem) (k : KV) : R := chk a t (chk b t (Bool.casesOn (Nat.ble (Nat.succ (Nat.div a 32)) p) none (Bool.casesOn (Nat.ble (Nat.succ (Nat.div b 32)) p) none
  (Bool.casesOn (Nat.beq b t) (k (Nat.add t (Nat.mul 32 (Nat.mod (Nat.div a 32) (Nat.div b 32)))) m) none))))
def andI (t a b : Nat) (m : Mem) (k : KV) : R := chk a t (chk b t (k (Nat.add t (Nat.mul 32 (Nat.land (Nat.div a 32) (Nat.div b 32)))) m))
def orI (t a b : Nat) (m : Mem) (k : KV) : R := chk a t (chk b t (k (Nat.add t (Nat.mul 32 (Nat.lor (Nat.div a 32) (Nat.div b 32)))) m))
def xorI (t a b : Nat) (m : Mem) (k : KV) : R := chk a t (chk b t (k (Nat.add t (Nat.mul 32 (Nat.xor (Nat.div a 32) (Nat.div b 32)))) m))
/-- a number that is not negative: int or unsigned -/
def natK (e : Nat) (k : Nat → R) : R := Bool.casesOn (Nat.ble (Nat.mod (Nat.add e 28) 32) 4) none (k (Nat.div e 32))
/-- shifts of unsigned numbers, by less than 64 -/
def shlI (t M a b : Nat) (m : Mem) (k : KV) : R := chk a t (natK b fun s => Bool.casesOn (Nat.ble s 63) none (k (Nat.add t (Nat.mod (Nat.shiftLeft (Nat.sub a t) s) M)) m))
def shrI (t a b : Nat) (m : Mem) (k : KV) : R := chk a t (natK b fun s => Bool.casesOn (Nat.ble s 63) none (k (Nat.add t (Nat.mul 32 (Nat.shiftRight (Nat.div a 32) s))) m))
def eqI (t a b : Nat) (m : Mem) (k : KV) : R := chk a t (chk b t (k (bV (Nat.beq a b)) m))
def neI (t a b : Nat) (m : Mem) (k : KV) : R := chk a t (chk b t (k (Bool.casesOn (Nat.beq a b) 41 9) m))
def leU (t a b : Nat) (m : Mem) (k : KV) : R := chk a t (chk b t (k (bV (Nat.ble a b)) m))
def ltU (t a b : Nat) (m : Mem) (k : KV) : R := chk a t (chk b t (k (bV (Nat.ble (Nat.succ a) b)) m))
def leS (t h M a b : Nat) (m : Mem) (k : KV) : R := chk a t (chk b t (k (bV (Nat.ble (Nat.mod (Nat.add a h) M) (Nat.mod (Nat.add b h) M))) m))
def ltS (t h M a b : Nat) (m : Mem) (k : KV) : R := chk a t (chk b t (k (bV (Nat.ble (Nat.succ (Nat.mod (Nat.add a h) M)) (Nat.mod (Nat.add b h) M))) m))

def bop (x y : Sel) (g : Nat → Nat → Mem → KV → R) : OpF := ⟨fun _ E m k => g (x.fn E) (y.fn E) m k⟩
def uop (x : Sel) (g : Nat → Mem → KV → R) : OpF := ⟨fun _ E m k => g (x.fn E) m k⟩
def kM (k : IntKind) : Nat := 32 * kmod k
def kH (k : IntKind) : Nat := 32 * khalf k
def unsg (k : IntKind) : Bool := Nat.beq (khalf k) 0
def cmpF (kd : IntKind) (u : Nat → Nat → Nat → Mem → KV → R) (s : Nat → Nat → Nat → Nat → Nat → Mem → KV → R) (x y : Sel) : OpF := match unsg kd with
  | true => bop x y (u (ktag kd))
  | false => forceN (kH kd) fun h => forceN (kM kd) fun M => bop x y (s (ktag kd) h M)
def binF (op : BinOp) (kd : IntKind) (x y : Sel) : OpF := match op with
  | .add => forceN (kM kd) fun M => bop x y (addI (ktag kd) M)
  | .sub => forceN (kM kd) fun M => bop x y (subI (ktag kd) M)
  | .mul => forceN (kM kd) fun M => bop x y (mulI (ktag kd) M)
  | .quo => bop x y (divI (ktag kd) (kpos kd))
  | .rem => bop x y (remI (ktag kd) (kpos kd))
  | .and => match unsg kd with
    | true => bop x y (andI (ktag kd))
    | false => bad
  | .or => match unsg kd with
    | true => bop x y (orI (ktag kd))
    | false => bad
  | .xor => match unsg kd with
    | true => bop x y (xorI (ktag kd))
    | false => bad
  | .shl => match unsg kd with
    | true => forceN (kM kd) fun M => bop x y (shlI (ktag kd) M)
    | false => bad
  | .shr => match unsg kd with
    | true => bop x y (shrI (ktag kd))
    | false => bad
  | .eql => bop x y (eqI (ktag kd))
  | .neq => bop x y (neI (ktag kd))
  | .lss => cmpF kd ltU ltS x y
  | .leq => cmpF kd leU leS x y
  | .gtr => cmpF kd ltU ltS y x
  | .geq => cmpF kd leU leS y x
  | _ => bad

def eqB (a b : Nat) (m : Mem) (k : KV) : R := chk a 9 (chk b 9 (k (bV (Nat.beq a b)) m))
def neB (a b : Nat) (m : Mem) (k : KV) : R := chk a 9 (chk b 9 (k (Bool.casesOn (Nat.beq a b) 41 9) m))
/-- a slice: is it nil? -/
def nilS (a : Nat) (k : Bool → R) : R := Bool.casesOn (Nat.beq a 13)
  (Bool.casesOn (Nat.beq (Nat.mod a 32) 12) (Bool.casesOn (Nat.beq (Nat.mod a 32) 14) (chk a 18 (k false)) (k false)) (k false)) (k true)
def nilP (a : Nat) (k : Bool → R) : R := Bool.casesOn (Nat.beq a 11) (chk a 10 (k false)) (k true)
def eqNS (a b : Nat) (m : Mem) (k : KV) : R := Bool.casesOn (Nat.beq b 13) none (nilS a fun t => k (bV t) m)
def neNS (a b : Nat) (m : Mem) (k : KV) : R := Bool.casesOn (Nat.beq b 13) none (nilS a fun t => k (Bool.casesOn t 41 9) m)
def eqNP (a b : Nat) (m : Mem) (k : KV) : R := Bool.casesOn (Nat.beq b 11) none (nilP a fun t => k (bV t) m)
def neNP (a b : Nat) (m : Mem) (k : KV) : R := Bool.casesOn (Nat.beq b 11) none (nilP a fun t => k (Bool.casesOn t 41 9) m)
/-- the tags' bits of n cells; n cells that are bytes of value 0 -/
def maskN (n : Nat) : Nat := Nat.rec 0 (fun _ ih => Nat.add 31 (Nat.mul cB ih)) n
def patN (n : Nat) : Nat := Nat.rec 0 (fun _ ih => Nat.add 5 (Nat.mul cB ih)) n
def byteA (n a : Nat) (m : Mem) (k : Nat → R) : R := aggK a m fun c p => Bool.casesOn (Nat.beq c n) none (Bool.casesOn (Nat.beq (Nat.land p (maskN n)) (patN n)) none (k p))
def eqA (n a b : Nat) (m : Mem) (k : KV) : R := byteA n a m fun p => byteA n b m fun q => k (bV (Nat.beq p q)) m
def neA (n a b : Nat) (m : Mem) (k : KV) : R := byteA n a m fun p => byteA n b m fun q => k (Bool.casesOn (Nat.beq p q) 41 9) m
def ltStr (a b : Nat) (m : Mem) (k : KV) : R := chk a 17 (chk b 17 (k (bV (Nat.ble (Nat.succ a) b)) m))
def geStr (a b : Nat) (m : Mem) (k : KV) : R := chk a 17 (chk b 17 (k (bV (Nat.ble b a)) m))
def eqF (op : BinOp) (x y : Sel) (e n : Nat → Nat → Mem → KV → R) : OpF := match op with
  | .eql => bop x y e
  | .neq => bop x y n
  | _ => bad
def strF (op : BinOp) (x y : Sel) : OpF := match op with
  | .lss => bop x y ltStr
  | .geq => bop x y geStr
  | _ => bad
def binAny (P : Program) (op : BinOp) (t : TypeId) (x y : Sel) : OpF := match P.underlying t with
  | some (.int kd) => binF op kd x y
  | some .bool => eqF op x y eqB neB
  | some .string => strF op x y
  | some (.array n e) => match P.underlying e, P.info? e, P.eqGuardType P.depth t with
    | some (.int .u8), some i, false => match i.size with
      | 1 => eqF op x y (eqA n) (neA n)
      | _ => bad
    | _, _, _ => bad
  | some (.slice _) => eqF op x y eqNS neNS
  | some (.pointer _) => eqF op x y eqNP neNP
  | _ => bad

def notB (a : Nat) (m : Mem) (k : KV) : R := Bool.casesOn (Nat.beq a 9) (Bool.casesOn (Nat.beq a 41) none (k 9 m)) (k 41 m)
def cplI (t M a : Nat) (m : Mem) (k : KV) : R := chk a t (k (Nat.sub (Nat.add (Nat.add t t) (Nat.sub M 32)) a) m)
def unF (P : Program) (op : UnOp) (t : TypeId) (x : Sel) : OpF := match op with
  | .not => uop x notB
  | .xor => match P.underlying t with
    | some (.int .u8) => uop x (cplI 5 8192)
    | _ => bad
  | _ => bad

/-! ### slices -/
def u8s (c n : Nat) : Nat := Nat.rec (motive := fun _ => Nat → Nat → Nat) (fun _ acc => acc) (fun _ ih c acc => forceN (Nat.add (Nat.mul 256 acc) (Nat.div (Nat.mod c cB) 32)) fun acc => ih (Nat.shiftRight c 320) acc) n c 0
def digits (n : Nat) : Nat := Nat.casesOn n 0 (fun m => Nat.succ (Nat.div (Nat.log2 (Nat.succ m)) 8))
/-- the first n digits of x, as packed bytes -/
def leP (n x : Nat) : Nat := Nat.rec (motive := fun _ => Nat → Nat) (fun _ => 0) (fun _ ih x => Nat.add (Nat.add 5 (Nat.mul 32 (Nat.mod x 256))) (Nat.mul cB (ih (Nat.div x 256)))) n x
def isSl (e : Nat) : Bool := Bool.casesOn (Nat.beq (Nat.mod e 32) 12) (Nat.beq (Nat.mod e 32) 18) true
def lenOf (e : Nat) (k : Nat → R) : R := Bool.casesOn (isSl e) (Bool.casesOn (Nat.beq e 13) (chk e 14 (k (digits (Nat.div e 32)))) (k 0)) (k (lenS e))
/-- the cells of the first n elements of a slice -/
def srcK (m : Mem) (size n e : Nat) (k : Nat → R) : R :=
  Bool.casesOn (isSl e) (Bool.casesOn (Nat.beq e 13) (chk e 14 (Bool.casesOn (Nat.beq size 1) none (Bool.casesOn (Nat.ble n (digits (Nat.div e 32))) none (forceN (leP n (Nat.div e 32)) k)))) (k 0))
    (hget (nmOf e) m.hp (fun b => Bool.casesOn (Nat.ble (Nat.add (offS e) (Nat.mul n size)) b.n) none (k (rgN b.c (offS e) (Nat.mul n size)))))
def okS (off len cap : Nat) (r : R) : R := Bool.casesOn (Nat.ble off 4294967295) none (Bool.casesOn (Nat.ble len 4294967295) none (Bool.casesOn (Nat.ble cap 4294967295) none r))
def cvI (t u M e : Nat) (m : Mem) (k : KV) : R := chk e t (k (Nat.add u (Nat.mod (Nat.sub e t) M)) m)
def cvStr (e : Nat) (m : Mem) (k : KV) : R := Bool.casesOn (isSl e) none (lenOf e fun n => Bool.casesOn (Nat.beq n 20) none (srcK m 1 20 e fun c =>
  Bool.casesOn (Nat.beq (Nat.land c (maskN 20)) (patN 20)) none (forceN (u8s c 20) fun n => Bool.casesOn (Nat.ble n 1461501637330902918203684832716283019655932542975) none (k (Nat.add 17 (Nat.mul 32 n)) m))))
def convF (P : Program) (s d : TypeId) (x : Sel) : OpF := match P.underlying d with
  | some (.int kd) => match P.underlying s with
    | some (.int ks) => match unsg ks, ks with
      | true, _ => forceN (kM kd) fun M => uop x (cvI (ktag ks) (ktag kd) M)
      | _, .i64 => forceN (kM kd) fun M => uop x (cvI 4 (ktag kd) M)
      | _, _ => bad
    | _ => bad
  | some .string => match P.underlying s with
    | some (.slice e) => match P.underlying e with
      | some (.int .u8) => uop x cvStr
      | _ => bad
    | _ => bad
  | _ => bad
structure Opt where
  fn : Nat → Nat → (Nat → R) → R
def optF (N : Nat) (x : Option Operand) : Opt := match x with
  | none => ⟨fun d _ k => k d⟩
  | some x => ⟨fun _ E k => natK ((sel N x).fn E) k⟩
def sliceK (t size nm off len cap E : Nat) (lo hi mx : Opt) (m : Mem) (k : KV) : R :=
  mx.fn cap E fun x => hi.fn len E fun h => lo.fn 0 E fun l =>
    Bool.casesOn (Nat.ble x cap) none (Bool.casesOn (Nat.ble h x) none (Bool.casesOn (Nat.ble l h) none
      (okS (Nat.add off (Nat.mul l size)) h x (k (mkS t nm (Bool.casesOn (Nat.beq x l) (Nat.add off (Nat.mul l size)) off) (Nat.sub h l) (Nat.sub x l)) m))))
def slArr (size n : Nat) (lo hi mx : Opt) (E e : Nat) (m : Mem) (k : KV) : R := chk e 10 (sliceK 12 size (nmOf e) (offP e) n n E lo hi mx m k)
/-- of nil, all bounds are 0 -/
def slNil (lo hi mx : Opt) (E : Nat) (m : Mem) (k : KV) : R :=
  mx.fn 0 E fun x => hi.fn 0 E fun h => lo.fn 0 E fun l => Bool.casesOn (Nat.beq x 0) none (Bool.casesOn (Nat.beq h 0) none (Bool.casesOn (Nat.beq l 0) none (k 13 m)))
/-- a number whole -/
def slNum (lo hi mx : Opt) (E e : Nat) (m : Mem) (k : KV) : R := chk e 14
  (mx.fn (digits (Nat.div e 32)) E fun x => hi.fn (digits (Nat.div e 32)) E fun h => lo.fn 0 E fun l =>
    Bool.casesOn (Nat.beq x (digits (Nat.div e 32))) none (Bool.casesOn (Nat.beq h (digits (Nat.div e 32))) none (Bool.casesOn (Nat.beq l 0) none (k e m))))
/-- a max is given -/
def slMax (size : Nat) (lo hi mx : Opt) (E e : Nat) (m : Mem) (k : KV) : R :=
  Bool.casesOn (isSl e) (Bool.casesOn (Nat.beq e 13) (slNum lo hi mx E e m k) (slNil lo hi mx E m k)) (sliceK 12 size (nmOf e) (offS e) (lenS e) (capS e) E lo hi mx m k)
/-- none is given: an unknown capacity stays unknown -/
def slLoose (lo hi : Opt) (E e : Nat) (m : Mem) (k : KV) : R :=
  hi.fn (lenS e) E fun h => lo.fn 0 E fun l => Bool.casesOn (Nat.beq l 0) none (Bool.casesOn (Nat.ble h (capS e)) none (okS (offS e) h (capS e) (k (mkS 18 (nmOf e) (offS e) h (capS e)) m)))
def slBare (size : Nat) (lo hi mx : Opt) (E e : Nat) (m : Mem) (k : KV) : R :=
  Bool.casesOn (Nat.beq (Nat.mod e 32) 12) (Bool.casesOn (Nat.beq (Nat.mod e 32) 18) (Bool.casesOn (Nat.beq e 13) (slNum lo hi mx E e m k) (slNil lo hi mx E m k)) (slLoose lo hi E e m k))
    (sliceK 12 size (nmOf e) (offS e) (lenS e) (capS e) E lo hi mx m k)
def slArrF (P : Program) (N n : Nat) (e : TypeId) (x : Sel) (lo hi mx : Option Operand) : OpF := match cl P e, hi, mx, Nat.ble n 4294967295 with
  | some _, none, some _, _ => bad
  | some w, _, _, true => ⟨fun _ E m k => slArr w n (optF N lo) (optF N hi) (optF N mx) E (x.fn E) m k⟩
  | _, _, _, _ => bad
def sliceF (P : Program) (N : Nat) (t : TypeId) (x : Sel) (lo hi mx : Option Operand) : OpF := match P.underlying t with
  | some (.array n e) => slArrF P N n e x lo hi mx
  | some (.slice e) => match cl P e, hi, mx with
    | some w, some _, some _ => ⟨fun _ E m k => slMax w (optF N lo) (optF N hi) (optF N mx) E (x.fn E) m k⟩
    | some w, _, none => ⟨fun _ E m k => slBare w (optF N lo) (optF N hi) (optF N mx) E (x.fn E) m k⟩
    | _, _, _ => bad
  | _ => bad

/-! ### append, copy, len -/
/-- a block is given up -/
def cutK (m : Mem) (nm : Nat) (k : Mem → R) : R := Mem.casesOn m fun hp nx ag na wb wl => k ⟨hdel nm hp, nx, ag, na, wb, tellN wb wl nm⟩
/-- a composite literal's array dies where it is appended -/
def dieB (m : Mem) (e : Nat) (k : Mem → R) : R := Bool.casesOn (isSl e) (k m) (hget (nmOf e) m.hp fun b =>
  Bool.casesOn (Nat.beq b.kd 2) (k m) (cutK m b.nm k))
def newApp (elem n size c : Nat) (m : Mem) (k : KV) : R := okS 0 n n (newB (mkS 18 m.nx 0 n n) (Nat.mul n size) c elem 3 m k)
def appNew (size elem s xn old new : Nat) (m : Mem) (k : KV) : R :=
  newApp elem (Nat.add (lenS s) xn) size (Nat.add old (Nat.shiftLeft new (Nat.mul 320 (Nat.mul (lenS s) size)))) m k
/-- the capacity is unknown: the old array is given up -/
def appLoose (size elem s x xn new : Nat) (m : Mem) (k : KV) : R :=
  Bool.casesOn (Nat.beq xn 0) (Bool.casesOn (Nat.beq (offS s) 0) none (srcK m size (lenS s) s fun old => dieB m x fun m =>
    hget (nmOf s) m.hp fun b => Bool.casesOn (Nat.beq b.el elem) none (cutK m b.nm fun m => appNew size elem s xn old new m k))) none
/-- the capacity is known, and does not do -/
def appGrow (size elem s x xn new : Nat) (m : Mem) (k : KV) : R :=
  Bool.casesOn (Nat.beq xn 0) (srcK m size (lenS s) s fun old => dieB m x fun m => appNew size elem s xn old new m k) none
def appIn (size s x xn new : Nat) (m : Mem) (k : KV) : R :=
  dieB m x fun m => atB (nmOf s) m fun b m => Bool.casesOn (Nat.ble (Nat.add (offS s) (Nat.mul (Nat.add (lenS s) xn) size)) b.n) none
    (okS (offS s) (Nat.add (lenS s) xn) (capS s)
      (setB b (rp b.c (Nat.add (offS s) (Nat.mul (lenS s) size)) (Nat.mul xn size) new) m (mkS 12 (nmOf s) (offS s) (Nat.add (lenS s) xn) (capS s)) k))
def appK (size elem s x : Nat) (m : Mem) (k : KV) : R :=
  lenOf x fun xn => srcK m size xn x fun new =>
    Bool.casesOn (Nat.beq s 13)
      (Bool.casesOn (Nat.beq (Nat.mod s 32) 12)
        (chk s 18 (appLoose size elem s x xn new m k))
        (Bool.casesOn (Nat.ble (Nat.add (lenS s) xn) (capS s)) (appGrow size elem s x xn new m k) (appIn size s x xn new m k)))
      (Bool.casesOn (Nat.beq xn 0) (dieB m x fun m => newApp elem xn size new m k) (k 13 m))
def copyK (size d x : Nat) (m : Mem) (k : KV) : R :=
  lenOf d fun dn => lenOf x fun xn => forceN (Nat.casesOn (Nat.sub xn dn) xn (fun _ => dn)) fun n => srcK m size n x fun new =>
    Bool.casesOn (Nat.beq d 13)
      (Bool.casesOn (isSl d) none (atB (nmOf d) m fun b m => Bool.casesOn (Nat.ble (Nat.add (offS d) (Nat.mul n size)) b.n) none (setB b (rp b.c (offS d) (Nat.mul n size) new) m (Nat.add 4 (Nat.mul 32 n)) k)))
      (k 4 m)
def lenSl (e : Nat) (m : Mem) (k : KV) : R := Bool.casesOn (Nat.beq (Nat.mod e 32) 14) (lenOf e fun n => k (Nat.add 4 (Nat.mul 32 n)) m) (k (Nat.add 4 (Nat.mul 32 (digits (Nat.div e 32)))) m)
def cst (c : Nat) : OpF := ⟨fun _ _ m k => k c m⟩
def lenA (n : Nat) : OpF := match Nat.ble n 4294967295 with
  | true => forceN (4 + 32 * n) cst
  | false => bad
def lenF (P : Program) (t : TypeId) (x : Sel) : OpF := match P.underlying t with
  | some (.slice _) => uop x lenSl
  | some (.array n _) => lenA n
  | some (.pointer arr) => match P.underlying arr with
    | some (.array n _) => lenA n
    | _ => bad
  | _ => bad
def min2 (a b : Nat) (m : Mem) (k : KV) : R := Bool.casesOn (Nat.beq (Nat.mod a 32) (Nat.mod b 32)) none (natK a fun p => natK b fun q =>
  Bool.casesOn (Nat.ble p 4294967295) none (Bool.casesOn (Nat.ble q 4294967295) none (k (Bool.casesOn (Nat.ble a b) b a) m)))
def slE (P : Program) (t : TypeId) (g : Nat → TypeId → OpF) : OpF := match P.underlying t with
  | some (.slice e) => match cl P e with
    | some w => g w e
    | none => bad
  | _ => bad
def appF (P : Program) (x y : Sel) (w : Nat) (e : TypeId) : OpF := match P.info? e with
  | some i => match i.zero, Nat.ble i.bytes 32768 with
    | some z, true => match Nat.beq z.cells.size w with
      | true => bop x y (appK w e)
      | false => bad
    | _, _ => bad
  | none => bad
def builtinF (P : Program) (N : Nat) (b : Builtin) (args : List Operand) (ts : List TypeId) : OpF := match b, args, ts with
  | .len, [x], [t] => lenF P t (sel N x)
  | .append, [s, x], [t, u] => match Nat.beq t u with
    | true => slE P t (appF P (sel N s) (sel N x))
    | false => bad
  | .copy, [s, x], [t, _] => slE P t fun w _ => bop (sel N s) (sel N x) (copyK w)
  | .min, [s, x], _ => bop (sel N s) (sel N x) min2
  | _, _, _ => bad

/-! ### addresses, parts -/
def fAddr (c e : Nat) (m : Mem) (k : KV) : R := chk e 10 (Bool.casesOn (Nat.ble (offP e) 4294967295) none (k (Nat.add e c) m))
def fieldOf (d : Option TypeDesc) (i : Nat) (k : Field → OpF) : OpF := match d with
  | some (.struct fields) => match fields[i]? with
    | some fd => k fd
    | none => bad
  | _ => bad
def fd0 (off e : Nat) (m : Mem) (k : KV) : R := aggK e m fun n c => part0 c n off m k
def fdA (w off e : Nat) (m : Mem) (k : KV) : R := aggK e m fun n c => partA w c n off m k
/-- w: 2 ^ 37 times the cells of an element -/
def ixArr (n w x i : Nat) (m : Mem) (k : KV) : R := chk x 10 (natK i fun i => Bool.casesOn (Nat.ble (Nat.succ i) n) none
  (Bool.casesOn (Nat.ble (Nat.add (offP x) (Nat.div (Nat.mul w i) 137438953472)) 4294967295) none (k (Nat.add x (Nat.mul w i)) m)))
def ixSl (w x i : Nat) (m : Mem) (k : KV) : R := natK i fun i =>
  Bool.casesOn (isSl x)
      (chk x 14 (Bool.casesOn (Nat.beq w 1) none (Bool.casesOn (Nat.ble (Nat.div x 32) 1942668892225729070919461906823518906642406839052139521251812409738904285205208498176) none
        (Bool.casesOn (Nat.ble (Nat.succ i) (digits (Nat.div x 32))) none (k (Nat.add 16 (Nat.mul 32 (Nat.add i (Nat.mul 65536 (Nat.div x 32))))) m)))))
      (Bool.casesOn (Nat.ble (Nat.succ i) (lenS x)) none (Bool.casesOn (Nat.ble (Nat.add (offS x) (Nat.mul i w)) 4294967295) none (k (mkP (nmOf x) (Nat.add (offS x) (Nat.mul i w))) m)))
def ix0 (n x i : Nat) (m : Mem) (k : KV) : R := natK i fun i => Bool.casesOn (Nat.ble (Nat.succ i) n) none (aggK x m fun cn c => part0 c cn i m k)
def ixA (s n x i : Nat) (m : Mem) (k : KV) : R := natK i fun i => Bool.casesOn (Nat.ble (Nat.succ i) n) none (aggK x m fun cn c => partA s c cn (Nat.mul i s) m k)
def ixF (n s : Nat) (c : Option Nat) (x i : Sel) : OpF := match Nat.ble n 4294967295, s, c with
  | true, 0, some 1 => bop x i (ix0 n)
  | true, w + 1, _ => bop x i (ixA w n)
  | _, _, _ => bad
def mkSl (elem z w l c : Nat) (m : Mem) (k : KV) : R := natK l fun l => natK c fun c => Bool.casesOn (Nat.ble l c) none (Bool.casesOn (Nat.ble c 100000) none
  (okS 0 l c (newB (mkS 12 m.nx 0 l c) (Nat.mul c w) (repN z w c) elem 1 m k)))
def toArr (n e : Nat) (m : Mem) (k : KV) : R := Bool.casesOn (isSl e) none (Bool.casesOn (Nat.ble n (lenS e)) none (k (mkP (nmOf e) (offS e)) m))
def extr (i e : Nat) (m : Mem) (k : KV) : R := chk e 21 (Bool.casesOn (Nat.ble (Nat.succ i) (Nat.div e 137438953472)) none (agOf m e fun p => k (pg p i) m))
def pick3 (c a b : Nat) (m : Mem) (k : KV) : R := Bool.casesOn (Nat.beq c 41) (Bool.casesOn (Nat.beq c 9) none (k b m)) (k a m)
structure Args where
  fn : Nat → List Nat
def argsF (N : Nat) : List Operand → Args
  | [] => ⟨fun _ => []⟩
  | x :: r => ⟨fun E => (sel N x).fn E :: (argsF N r).fn E⟩
def callK (g : Nat) (a : Args) : OpF := ⟨fun call E m k => Option.casesOn (call g (a.fn E) m) none (fun r => Prod.casesOn r fun v m => k v m)⟩
def idK (e : Nat) (m : Mem) (k : KV) : R := k e m
def nilK (e : Nat) (m : Mem) (k : KV) : R := chk e 10 (k e m)
def ldF (s : Nat) (a : Sel) : OpF := match s with
  | 0 => uop a ld0
  | w + 1 => uop a (ldA w)
def stF (s : Nat) (c : Option Nat) (a x : Sel) : OpF := match s, c with
  | 0, some 1 => bop a x st0
  | w + 1, _ => bop a x (stA w)
  | _, _ => bad
def fdF (s off : Nat) (x : Sel) : OpF := match s with
  | 0 => uop x (fd0 off)
  | w + 1 => uop x (fdA w off)
def szF (P : Program) (t : TypeId) (g : Nat → OpF) : OpF := match sz P t with
  | some s => g s
  | none => bad
def allocF (n z t : Nat) : OpF := ⟨fun _ _ m k => newB (mkP m.nx 0) n z t 0 m k⟩
def buildF (n z : Nat) (f : Fill) : OpF := ⟨fun _ E m k => f.fn E m z fun c => newAg 20 n c m k⟩
def bslF (e n len z : Nat) (f : Fill) : OpF := ⟨fun _ E m k => f.fn E m z fun c => okS 0 len len (newB (mkS 12 m.nx 0 len len) n c e 2 m k)⟩
def pickF (c a b : Sel) : OpF := ⟨fun _ E m k => pick3 (c.fn E) (a.fn E) (b.fn E) m k⟩

/-- one operation -/
def opF (P : Program) (N : Nat) (o : Op) : OpF := match o with
  | .move x | .assign x => uop (sel N x) idK
  | .pick c a b => pickF (sel N c) (sel N a) (sel N b)
  | .alloc t => match zeroP P t with
    | some (n, z) => allocF n z t
    | none => bad
  | .box t x => match cl P t with
    | some n => uop (sel N x) (boxK n t)
    | none => bad
  | .build t parts => match zeroP P t, P.underlying t with
    | some (n, z), some (.struct fields) => match fields.toList.all fun f => (P.info? f.type).isSome with
      | true => buildF n z (fillF N n (placeS P fields.toList) parts.toList)
      | false => bad
    | some (n, z), some (.array _ e) => match cl P e with
      | some w => buildF n z (fillF N n (fun i => some (i * w, w)) parts.toList)
      | none => bad
    | _, _ => bad
  | .buildSlice t len parts => match P.underlying t with
    | some (.slice e) => match zeroP P e, cl P e, Nat.ble len 1000 with
      | some (n, z), some w, true => match Nat.beq n w, Nat.ble w 1000 with
        | true, true => bslF e (len * w) len (repN z w len) (fillF N (len * w) (fun i => some (i * w, w)) parts.toList)
        | _, _ => bad
      | _, _, _ => bad
    | _ => bad
  | .load t a => szF P t fun s => ldF s (sel N a)
  | .store t a x => szF P t fun s => stF s (cl P t) (sel N a) (sel N x)
  | .nilCheck x => uop (sel N x) nilK
  | .binOp op t x y _ => binAny P op t (sel N x) (sel N y)
  | .unOp op t x => unF P op t (sel N x)
  | .convert s d x => convF P s d (sel N x)
  | .sliceToArrayPointer d x => match P.underlying d with
    | some (.array n _) => uop (sel N x) (toArr n)
    | _ => bad
  | .makeSlice t l c => match P.underlying t with
    | some (.slice e) => match zeroP P e, cl P e, P.info? e with
      | some (n, z), some w, some i => match Nat.beq n w, Nat.ble i.bytes 65536 with
        | true, true => bop (sel N l) (sel N c) (mkSl e z w)
        | _, _ => bad
      | _, _, _ => bad
    | _ => bad
  | .slice t x lo hi mx => sliceF P N t (sel N x) lo hi mx
  | .fieldAddr t x i => fieldOf (P.underlying t) i fun fd => match cl P fd.type, Nat.ble fd.offset 4294967295 with
    | some _, true => forceN (Nat.mul 137438953472 fd.offset) fun c => uop (sel N x) (fAddr c)
    | _, _ => bad
  | .field t x i => fieldOf (P.underlying t) i fun fd => szF P fd.type fun s => fdF s fd.offset (sel N x)
  | .indexAddr t x i => match P.underlying t with
    | some (.array n e) => match cl P e, Nat.ble n 4294967295 with
      | some w, true => forceN (Nat.mul 137438953472 w) fun w => bop (sel N x) (sel N i) (ixArr n w)
      | _, _ => bad
    | some (.slice e) => match cl P e with
      | some w => bop (sel N x) (sel N i) (ixSl w)
      | none => bad
    | _ => bad
  | .index t x i => match P.underlying t with
    | some (.array n e) => szF P e fun s => ixF n s (cl P e) (sel N x) (sel N i)
    | _ => bad
  | .extract t i => uop (sel N t) (extr i)
  | .call c => match c.callee with
    | .value (.func g) => callK g (argsF N c.args.toList)
    | .builtin b => builtinF P N b c.args.toList c.argTypes.toList
    | _ => bad
  | _ => bad

/-! ### regions -/
structure RegF where
  fn : CallF → Nat → Mem → (Nat → Mem → R) → R
def badR : RegF := ⟨fun _ _ _ _ => none⟩
def mixK (s : Nat) : Nat := Nat.mul s 11400714819323198485
/-- a temporary set; what lies below the temporaries is turned along, so that no two states look alike to the kernel's tables -/
def jmp (E s K v : Nat) : Nat := Nat.xor E (Nat.add (Nat.shiftLeft (Nat.xor (pgS E s) v) s) (Nat.mod (Nat.mul (Nat.xor (pgS E s) v) (mixK K)) 2305843009213693951))
def putFs (s : Nat) : PutF := forceN s fun s => ⟨fun E v => jmp E s s v⟩
def putF (d : Tmp) : PutF := putFs (Nat.mul 320 (d + 1))
def noPut : PutF := ⟨fun E _ => E⟩
def seqR (c : OpF) (p : PutF) (r : RegF) : RegF := ⟨fun call E m k => c.fn call E m fun v m => forceN (p.fn E v) fun E => r.fn call E m k⟩
/-- where the guard says no: it is the other bool, or was skipped itself -/
def saysNo (x want : Nat) : Bool := Bool.casesOn (Nat.beq x (Nat.sub 50 want)) (Nat.beq x 22) true
def grd (g want : Nat) (c r : RegF) (p : PutF) : RegF := ⟨fun call E m k => Bool.casesOn (Nat.beq (pgS E g) want) (Bool.casesOn (saysNo (pgS E g) want) none (forceN (p.fn E 22) fun E => r.fn call E m k)) (c.fn call E m k)⟩
/-- the destination, if it is one of N -/
def dstK (N : Nat) (d : Option Tmp) (k : PutF → RegF) : RegF := match d with
  | none => k noPut
  | some t => match Nat.blt t N with
    | true => k (putF t)
    | false => badR
/-- the guard's temporary -/
def gtmp (N : Nat) (all : List Oper) (j : Nat) : Option Nat := match all[j]? with
  | some oj => match oj.dst with
    | some d => match Nat.blt d N with
      | true => some d
      | false => none
    | none => none
  | none => none
def opsF (P : Program) (N : Nat) (all : List Oper) : List Oper → RegF
  | [] => ⟨fun _ E m k => k E m⟩
  | o :: rest => match o.guard with
    | none => dstK N o.dst fun p => seqR (opF P N o.op) p (opsF P N all rest)
    | some (j, want) => match gtmp N all j with
      | some d => dstK N o.dst fun p => grd (320 * (d + 1)) (match want with | true => 41 | false => 9) (seqR (opF P N o.op) p (opsF P N all rest)) (opsF P N all rest) p
      | none => badR

/-! ### regions that draw their order: run by the index; what is read must not be written by what may stand on either side -/
/-- 0: nothing of memory · 1: reads at an address · 2: makes a block · 3: more -/
def kindD (P : Program) : Op → Nat
  | .move _ | .assign _ | .pick .. | .build .. | .nilCheck _ | .binOp .. | .unOp .. | .sliceToArrayPointer .. | .slice .. | .fieldAddr .. | .field .. | .indexAddr .. | .index .. | .extract .. => 0
  | .convert _ d _ => match P.underlying d with
    | some (.int _) => 0
    | _ => 1
  | .call { callee := .builtin .len, .. } | .call { callee := .builtin .min, .. } => 0
  | .load .. => 1
  | .alloc _ | .box .. | .buildSlice .. | .makeSlice .. => 2
  | .store .. | .call _ => 3
  | _ => 4
def addrD : Op → Operand
  | .load _ a => a
  | .convert _ _ x => x
  | _ => .const .nilFunc
/-- bit j of the i-th: j stands before i -/
def maskOf (l : List Nat) (o : Oper) : Nat := o.after.toList.foldl (fun s e => match Region.binds .any e with
  | true => s ||| 2 ^ e.on ||| lg e.on l
  | false => s) 0
def masks : List Oper → List Nat → List Nat
  | [], l => l
  | o :: r, l => forceN (maskOf l o) fun x => masks r (l ++ [x])
def ancB (ms : List Nat) (j i : Nat) : Bool := (lg i ms).testBit j
def ordB (ms : List Nat) (j i : Nat) : Bool := ancB ms j i || ancB ms i j
def tmpsD (all : List Oper) (o : Oper) : List Nat := o.looksAt all.toArray
/-- the static conditions -/
def okD (P : Program) (ops : List Oper) : Bool :=
  let ms := masks ops []
  let ix := List.range ops.length
  let at_ (i : Nat) : Oper := ops.getD i default
  -- edges go back
  ix.all (fun i => (at_ i).after.toList.all fun e => !Region.binds .any e || Nat.blt e.on i) &&
  -- kinds known
  ix.all (fun i => Nat.ble (kindD P (at_ i).op) 3) &&
  -- one writer each; who names a temporary is ordered to its writer
  ix.all (fun i => match (at_ i).dst with
    | none => true
    | some d => ix.all fun j => Nat.beq i j || (!((at_ j).dst == some d) && (!((tmpsD ops (at_ j)).contains d) || ordB ms i j))) &&
  ix.all (fun i => match (at_ i).dst with
    | none => true
    | some d => !((tmpsD ops (at_ i)).contains d)) &&
  -- effects in a row; blocks made before an effect are made before it in every order
  ix.all (fun i => !Nat.beq (kindD P (at_ i).op) 3 || ix.all fun j => !Nat.blt j i || !Nat.ble 2 (kindD P (at_ j).op) || ancB ms j i) &&
  -- an address that is read stays in its temporary
  ix.all (fun i => !Nat.beq (kindD P (at_ i).op) 1 || match addrD (at_ i).op with
    | .tmp t => ix.all fun j => Nat.blt j i || !((at_ j).dst == some t)
    | _ => false)

structure Look where
  fn : Nat → Nat → List (List Nat) → R → R
def memRef (e : Nat) : Bool := Bool.casesOn (Nat.beq (Nat.mod e 32) 10) (isSl e) true
def notIn (nm : Nat) (fl : List Bool) (ws : List (List Nat)) : Bool := match fl, ws with
  | [], [] => true
  | f :: fl, w :: ws => (!f || !isIn nm w) && notIn nm fl ws
  | _, _ => false
def look1 (a : Sel) (fl : List Bool) (r : Look) : Look := ⟨fun E wb ws x => Bool.casesOn (memRef (a.fn E)) (r.fn E wb ws x)
  (Bool.casesOn (Nat.ble (Nat.succ (nmOf (a.fn E))) wb) none (Bool.casesOn (notIn (nmOf (a.fn E)) fl ws) none (r.fn E wb ws x)))⟩
/-- the effects' places, the last first -/
def effs (P : Program) (ops : List Oper) : List Nat := ((List.range ops.length).filter fun i => Nat.beq (kindD P (ops.getD i default).op) 3).reverse
def lookF (P : Program) (N : Nat) (ops : List Oper) (ms : List Nat) : List Nat → Look
  | [] => ⟨fun _ _ _ x => x⟩
  | i :: r => match Nat.beq (kindD P (ops.getD i default).op) 1 with
    | true => look1 (sel N (addrD (ops.getD i default).op)) ((effs P ops).map fun e => !ordB ms i e) (lookF P N ops ms r)
    | false => lookF P N ops ms r
structure DregF where
  fn : CallF → Nat → Mem → List (List Nat) → (Nat → Mem → List (List Nat) → R) → R
def badD : DregF := ⟨fun _ _ _ _ _ => none⟩
def seqD (c : OpF) (p : PutF) (r : DregF) : DregF := ⟨fun call E m ws k => c.fn call E m fun v m => forceN (p.fn E v) fun E => r.fn call E m ws k⟩
/-- behind an effect what it told is set aside -/
def effD (c : OpF) (p : PutF) (r : DregF) : DregF := ⟨fun call E m ws k => c.fn call E m fun v m => forceN (p.fn E v) fun E => Mem.casesOn m fun hp nx ag na wb wl => r.fn call E ⟨hp, nx, ag, na, wb, []⟩ (wl :: ws) k⟩
def noEffD (p : PutF) (r : DregF) : DregF := ⟨fun call E m ws k => forceN (p.fn E 22) fun E => r.fn call E m ([] :: ws) k⟩
def noSeqD (p : PutF) (r : DregF) : DregF := ⟨fun call E m ws k => forceN (p.fn E 22) fun E => r.fn call E m ws k⟩
def grdD (g want : Nat) (c r : DregF) : DregF := ⟨fun call E m ws k => Bool.casesOn (Nat.beq (pgS E g) want) (Bool.casesOn (saysNo (pgS E g) want) none (r.fn call E m ws k)) (c.fn call E m ws k)⟩
def dstD (N : Nat) (d : Option Tmp) (k : PutF → DregF) : DregF := match d with
  | none => k noPut
  | some t => match Nat.blt t N with
    | true => k (putF t)
    | false => badD
def yesD (P : Program) (op : Op) (c : OpF) (p : PutF) (r : DregF) : DregF := match Nat.beq (kindD P op) 3 with
  | true => effD c p r
  | false => seqD c p r
def nayD (P : Program) (op : Op) (p : PutF) (r : DregF) : DregF := match Nat.beq (kindD P op) 3 with
  | true => noEffD p r
  | false => noSeqD p r
def dopsF (P : Program) (N : Nat) (all : List Oper) : List Oper → DregF
  | [] => ⟨fun _ E m ws k => k E m ws⟩
  | o :: rest => match o.guard with
    | none => dstD N o.dst fun p => yesD P o.op (opF P N o.op) p (dopsF P N all rest)
    | some (j, want) => match gtmp N all j with
      | some d => dstD N o.dst fun p => grdD (320 * (d + 1)) (match want with | true => 41 | false => 9) (yesD P o.op (opF P N o.op) p (dopsF P N all rest)) (nayD P o.op p (dopsF P N all rest))
      | none => badD
def joinW (ws : List (List Nat)) (l : List Nat) : List Nat := match ws with
  | [] => l
  | w :: ws => w ++ joinW ws l
def drawF (d : DregF) (l : Look) : RegF := ⟨fun call E m k => Mem.casesOn m fun hp nx ag na wb wl => d.fn call E ⟨hp, nx, ag, na, nx, []⟩ [] fun E' m' ws =>
  l.fn E' nx ws (Mem.casesOn m' fun hp' nx' ag' na' _ _ => k E' ⟨hp', nx', ag', na', wb, joinW ws wl⟩)⟩
def regF (P : Program) (N : Nat) (ops : List Oper) (draw : Bool) : RegF := match draw with
  | false => opsF P N ops ops
  | true => match okD P ops with
    | true => drawF (dopsF P N ops ops) (lookF P N ops (masks ops []) (List.range ops.length))
    | false => badR

/-! ### code -/
abbrev KX := Exit → Nat → Mem → R
structure CodeF where
  fn : CallF → Nat → Mem → KX → R
def condF (c : Sel) (a b : CodeF) : CodeF := ⟨fun call E m k => Bool.casesOn (Nat.beq (c.fn E) 41) (Bool.casesOn (Nat.beq (c.fn E) 9) none (b.fn call E m k)) (a.fn call E m k)⟩
def thenX (k : KX) (n : Nat → Mem → R) (x : Exit) (E : Nat) (m : Mem) : R := match x with
  | .normal => n E m
  | x => k x E m
def seqF (a b : CodeF) : CodeF := ⟨fun call E m k => a.fn call E m (thenX k fun E m => b.fn call E m k)⟩
def inBlk (id : Nat) (k : KX) (x : Exit) (E : Nat) (m : Mem) : R := match x with
  | .exit i => Bool.casesOn (Nat.beq i id) (k (.exit i) E m) (k .normal E m)
  | x => k x E m
def blkF (id : Nat) (a : CodeF) : CodeF := ⟨fun call E m k => a.fn call E m (inBlk id k)⟩
def loopF (a : CodeF) : CodeF := ⟨fun call E m k => Nat.rec (motive := fun _ => Nat → Mem → R) (fun _ _ => none) (fun _ ih E m => a.fn call E m (thenX k ih)) hfuel E m⟩
def rgnF (r : RegF) : CodeF := ⟨fun call E m k => r.fn call E m fun E m => k .normal E m⟩
def codeF (P : Program) (N : Nat) : Code → CodeF
  | .skip => ⟨fun _ E m k => k .normal E m⟩
  | .region _ ops draw => rgnF (regF P N ops.toList draw)
  | .seq a b => seqF (codeF P N a) (codeF P N b)
  | .cond c a b => condF (sel N c) (codeF P N a) (codeF P N b)
  | .block id a => blkF id (codeF P N a)
  | .loop a => loopF (codeF P N a)
  | .exit id => ⟨fun _ E m k => k (.exit id) E m⟩
  | .ret => ⟨fun _ E m k => k .ret E m⟩
  | _ => ⟨fun _ _ _ _ => none⟩

/-! ### calls -/
def res1 (P : Program) (N : Nat) (r : ResultVar) : OpF := match r with
  | .tmp t => uop (sel N (.tmp t)) idK
  | .cell a t => szF P t fun s => ldF s (sel N (.tmp a))
structure ResF where
  fn : CallF → Nat → Mem → R
/-- what a tuple may hold -/
def chkT (e : Nat) (r : R) : R := Bool.casesOn (Nat.ble (Nat.mod e 32) 20) none r
def tup2 (x y : Nat) (m : Mem) (k : KV) : R := chkT x (chkT y (newAg 21 2 (Nat.add x (Nat.mul cB y)) m k))
def tup3 (x y z : Nat) (m : Mem) (k : KV) : R := chkT x (chkT y (chkT z (newAg 21 3 (Nat.add x (Nat.mul cB (Nat.add y (Nat.mul cB z)))) m k)))
def tup4 (x y z u : Nat) (m : Mem) (k : KV) : R := chkT x (chkT y (chkT z (chkT u (newAg 21 4 (Nat.add x (Nat.mul cB (Nat.add y (Nat.mul cB (Nat.add z (Nat.mul cB u)))))) m k))))
def done : KV := fun v m => some (v, m)
def resF (P : Program) (N : Nat) (rs : List ResultVar) : ResF := match rs with
  | [] => ⟨fun _ _ m => some (0, m)⟩
  | [r] => ⟨fun call E m => (res1 P N r).fn call E m done⟩
  | [r, s] => ⟨fun call E m => (res1 P N r).fn call E m fun x m => (res1 P N s).fn call E m fun y m => tup2 x y m done⟩
  | [r, s, t] => ⟨fun call E m => (res1 P N r).fn call E m fun x m => (res1 P N s).fn call E m fun y m => (res1 P N t).fn call E m fun z m => tup3 x y z m done⟩
  | [r, s, t, u] => ⟨fun call E m => (res1 P N r).fn call E m fun x m => (res1 P N s).fn call E m fun y m => (res1 P N t).fn call E m fun z m => (res1 P N u).fn call E m fun u m => tup4 x y z u m done⟩
  | _ => ⟨fun _ _ _ => none⟩
def packA (l : List Nat) : Nat := match l with
  | [] => 0
  | a :: r => Nat.add a (Nat.shiftLeft (packA r) 320)
abbrev Orc := List Nat → Mem → R
structure FnF where
  fn : CallF → List Nat → Mem → R
/-- how the body ends -/
def endX (r : ResF) (call : CallF) (x : Exit) (E : Nat) (m : Mem) : R := match x with
  | .normal => r.fn call E m
  | .ret => r.fn call E m
  | _ => none
def bodyF (n : Nat) (b : CodeF) (r : ResF) : FnF := ⟨fun call args m => Bool.casesOn (Nat.beq args.length n) none (forceN (Nat.shiftLeft (packA args) 320) fun E => b.fn call E m (endX r call))⟩
def fnF (P : Program) (orc : Nat → Option Orc) (g : Nat) : FnF := match orc g with
  | some o => ⟨fun _ args m => o args m⟩
  | none => match P.funcs[g]? with
    | some fn => match fn.body, Nat.ble fn.params.size fn.ntmps with
      | some b, true => bodyF fn.params.size (codeF P fn.ntmps b) (resF P fn.ntmps fn.results.toList)
      | _, _ => ⟨fun _ _ _ => none⟩
    | none => ⟨fun _ _ _ => none⟩
def run (P : Program) (orc : Nat → Option Orc) (fuel : Nat) : CallF :=
  Nat.rec (motive := fun _ => CallF) (fun _ _ _ => none) (fun _ ih g args m => (fnF P orc g).fn ih args m) fuel

end Go.Proofs.YgvaqwGreat.Ev
