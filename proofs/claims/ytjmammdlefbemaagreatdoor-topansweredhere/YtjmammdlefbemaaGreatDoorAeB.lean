/- The abstract evaluator: operations, compiled to closures. An answer of 0 is success; each failure has a code that is not 0. -/
import Derived.Test.YtjmammdlefbemaaGreatDoorAeA
namespace Go.Ae

structure Ctx where
  ti : Nat → Option TypeInfo
  fn : Nat → Option Func
  gl : Nat → Nat → AV
  eqs : Nat → Bool

def Ctx.und (C : Ctx) (t : Nat) : Option TypeDesc :=
  match C.ti t with
  | some i => match i.desc with
    | .named _ u => (C.ti u).map (·.desc)
    | d => some d
  | none => none
def Ctx.size (C : Ctx) (t : Nat) : Option Nat := (C.ti t).map (·.size)
def Ctx.isAgg (C : Ctx) (t : Nat) : Option Bool := (C.und t).map fun | .struct _ | .array _ _ => true | _ => false

/- eliminators -/
section
variable (e : Nat)
noncomputable def asInt (v : AV) (k : IntKind → Int → Nat) : Nat :=
  AV.rec (motive_1 := fun _ => Nat) (motive_2 := fun _ => Unit) (motive_3 := fun _ => Unit)
    e e e e e e e e (fun _ _ => e) (fun _ _ => e) (fun _ _ => e) (fun _ _ _ => e) (fun _ _ => e) (fun _ => e) (fun _ => e) (fun _ _ _ _ _ => e) (fun _ _ => e) (fun _ => e) k
    (fun _ => e) () (fun _ _ _ _ => ()) () (fun _ _ _ _ _ _ => ()) v
noncomputable def asBool (v : AV) (k : Bool → Nat) : Nat :=
  AV.rec (motive_1 := fun _ => Nat) (motive_2 := fun _ => Unit) (motive_3 := fun _ => Unit)
    e e e e e e e e (fun _ _ => e) (fun _ _ => e) (fun _ _ => e) (fun _ _ _ => e) (fun _ _ => e) (fun _ => e) (fun _ => e) (fun _ _ _ _ _ => e) (fun _ _ => e) k (fun _ _ => e)
    (fun _ => e) () (fun _ _ _ _ => ()) () (fun _ _ _ _ _ _ => ()) v
noncomputable def asPtr (v : AV) (k : Nat → Nat → Nat) : Nat :=
  AV.rec (motive_1 := fun _ => Nat) (motive_2 := fun _ => Unit) (motive_3 := fun _ => Unit)
    e e e e e e e e (fun _ _ => e) (fun _ _ => e) (fun _ _ => e) (fun _ _ _ => e) (fun _ _ => e) (fun _ => e) (fun _ => e) (fun _ _ _ _ _ => e) k (fun _ => e) (fun _ _ => e)
    (fun _ => e) () (fun _ _ _ _ => ()) () (fun _ _ _ _ _ _ => ()) v
noncomputable def asStr (v : AV) (k : List Nat → Nat) : Nat :=
  AV.rec (motive_1 := fun _ => Nat) (motive_2 := fun _ => Unit) (motive_3 := fun _ => Unit)
    e e e e e e e e (fun _ _ => e) (fun _ _ => e) (fun _ _ => e) (fun _ _ _ => e) (fun _ _ => e) (fun _ => e) k (fun _ _ _ _ _ => e) (fun _ _ => e) (fun _ => e) (fun _ _ => e)
    (fun _ => e) () (fun _ _ _ _ => ()) () (fun _ _ _ _ _ _ => ()) v
noncomputable def asMap (v : AV) (k : Nat → Nat) : Nat :=
  AV.rec (motive_1 := fun _ => Nat) (motive_2 := fun _ => Unit) (motive_3 := fun _ => Unit)
    e e e e e e e e (fun _ _ => e) (fun _ _ => e) (fun _ _ => e) (fun _ _ _ => e) (fun _ _ => e) k (fun _ => e) (fun _ _ _ _ _ => e) (fun _ _ => e) (fun _ => e) (fun _ _ => e)
    (fun _ => e) () (fun _ _ _ _ => ()) () (fun _ _ _ _ _ _ => ()) v
noncomputable def asAgg (v : AV) (k : TT → Nat → Nat) : Nat :=
  AV.rec (motive_1 := fun _ => Nat) (motive_2 := fun _ => Unit) (motive_3 := fun _ => Unit)
    e e e e e e e e (fun _ _ => e) (fun _ _ => e) (fun _ _ => e) (fun cs n _ => k cs n) (fun _ _ => e) (fun _ => e) (fun _ => e) (fun _ _ _ _ _ => e) (fun _ _ => e) (fun _ => e) (fun _ _ => e)
    (fun _ => e) () (fun _ _ _ _ => ()) () (fun _ _ _ _ _ _ => ()) v
noncomputable def asTuple (v : AV) (k : List AV → Nat) : Nat :=
  AV.rec (motive_1 := fun _ => Nat) (motive_2 := fun _ => Unit) (motive_3 := fun _ => Unit)
    e e e e e e e e (fun _ _ => e) (fun _ _ => e) (fun vs _ => k vs) (fun _ _ _ => e) (fun _ _ => e) (fun _ => e) (fun _ => e) (fun _ _ _ _ _ => e) (fun _ _ => e) (fun _ => e) (fun _ _ => e)
    (fun _ => e) () (fun _ _ _ _ => ()) () (fun _ _ _ _ _ _ => ()) v
noncomputable def asFn (v : AV) (k : Nat → List (Nat × Nat) → Nat) : Nat :=
  AV.rec (motive_1 := fun _ => Nat) (motive_2 := fun _ => Unit) (motive_3 := fun _ => Unit)
    e e e e e e e e (fun _ _ => e) k (fun _ _ => e) (fun _ _ _ => e) (fun _ _ => e) (fun _ => e) (fun _ => e) (fun _ _ _ _ _ => e) (fun _ _ => e) (fun _ => e) (fun _ _ => e)
    (fun _ => e) () (fun _ _ _ _ => ()) () (fun _ _ _ _ _ _ => ()) v
/-- a function value, or a yield -/
noncomputable def asFnY (v : AV) (k : Nat → List (Nat × Nat) → Nat) (ky : Nat → Nat) : Nat :=
  AV.rec (motive_1 := fun _ => Nat) (motive_2 := fun _ => Unit) (motive_3 := fun _ => Unit)
    e e e e e e e e (fun _ _ => e) k (fun _ _ => e) (fun _ _ _ => e) (fun _ _ => e) (fun _ => e) (fun _ => e) (fun _ _ _ _ _ => e) (fun _ _ => e) (fun _ => e) (fun _ _ => e)
    ky () (fun _ _ _ _ => ()) () (fun _ _ _ _ _ _ => ()) v
noncomputable def asFlt (v : AV) (k : FloatKind → Nat → Nat) : Nat :=
  AV.rec (motive_1 := fun _ => Nat) (motive_2 := fun _ => Unit) (motive_3 := fun _ => Unit)
    e e e e e e e e k (fun _ _ => e) (fun _ _ => e) (fun _ _ _ => e) (fun _ _ => e) (fun _ => e) (fun _ => e) (fun _ _ _ _ _ => e) (fun _ _ => e) (fun _ => e) (fun _ _ => e)
    (fun _ => e) () (fun _ _ _ _ => ()) () (fun _ _ _ _ _ _ => ()) v
/-- a slice: nil, an empty one of unknown place (its capacity zero?), one with a block -/
noncomputable def asSlice (v : AV) (kn : Nat) (kv : Bool → Nat) (k : Nat → Nat → Nat → Bool → Nat → Nat) : Nat :=
  AV.rec (motive_1 := fun _ => Nat) (motive_2 := fun _ => Unit) (motive_3 := fun _ => Unit)
    e e kn e e e (kv false) (kv true) (fun _ _ => e) (fun _ _ => e) (fun _ _ => e) (fun _ _ _ => e) (fun _ _ => e) (fun _ => e) (fun _ => e) k (fun _ _ => e) (fun _ => e) (fun _ _ => e)
    (fun _ => e) () (fun _ _ _ _ => ()) () (fun _ _ _ _ _ _ => ()) v
/-- a pointer, nil too -/
noncomputable def asPtrN (v : AV) (kn : Nat) (k : Nat → Nat → Nat) : Nat :=
  AV.rec (motive_1 := fun _ => Nat) (motive_2 := fun _ => Unit) (motive_3 := fun _ => Unit)
    e kn e e e e e e (fun _ _ => e) (fun _ _ => e) (fun _ _ => e) (fun _ _ _ => e) (fun _ _ => e) (fun _ => e) (fun _ => e) (fun _ _ _ _ _ => e) k (fun _ => e) (fun _ _ => e)
    (fun _ => e) () (fun _ _ _ _ => ()) () (fun _ _ _ _ _ _ => ()) v
/-- the cells of a value: those of an aggregate; else the one value, that must fit one cell -/
noncomputable def asCells (v : AV) (k1 : Nat) (k : TT → Nat → Nat) : Nat :=
  AV.rec (motive_1 := fun _ => Nat) (motive_2 := fun _ => Unit) (motive_3 := fun _ => Unit)
    e k1 k1 k1 k1 k1 k1 k1 (fun _ _ => k1) (fun _ _ => k1) (fun _ _ => e) (fun cs n _ => k cs n) (fun _ _ => k1) (fun _ => k1) (fun _ => k1) (fun _ _ _ _ _ => k1) (fun _ _ => k1) (fun _ => k1) (fun _ _ => k1)
    (fun _ => e) () (fun _ _ _ _ => ()) () (fun _ _ _ _ _ _ => ()) v
noncomputable def blkCells (b : ABlk) (k : TT → Nat → Nat → Bool → Nat) : Nat :=
  ABlk.rec (motive := fun _ => Nat) e (fun _ => e) k (fun _ _ _ _ _ _ _ => e) e b
noncomputable def blkMap (b : ABlk) (k : List (AV × AV) → Nat) : Nat :=
  ABlk.rec (motive := fun _ => Nat) e k (fun _ _ _ _ => e) (fun _ _ _ _ _ _ _ => e) e b
noncomputable def guardN (b : Bool) (k : Nat) : Nat := Bool.rec (motive := fun _ => Nat) e k b
end

noncomputable def ite2 (b : Bool) (x y : Nat) : Nat := Bool.rec (motive := fun _ => Nat) y x b
noncomputable def forceN (n : Nat) (k : Nat → Nat) : Nat := Nat.rec (motive := fun _ => Nat) (k 0) (fun m _ => k (Nat.succ m)) n
noncomputable def forceI (n : Int) (k : Int → Nat) : Nat :=
  Int.rec (motive := fun _ => Nat) (fun m => forceN m fun m => k (.ofNat m)) (fun m => forceN m fun m => k (.negSucc m)) n

/- numbers -/
noncomputable def kn (k : IntKind) : Nat := IntKind.rec (motive := fun _ => Nat) 0 1 2 3 4 5 6 7 k
noncomputable def iadd (x y : Int) : Int :=
  Int.rec (motive := fun _ => Int) (fun m => Int.rec (motive := fun _ => Int) (fun n => .ofNat (Nat.add m n)) (fun n => Int.add (.ofNat m) (.negSucc n)) y) (fun m => Int.add (.negSucc m) y) x
noncomputable def isub (x y : Int) : Int :=
  Int.rec (motive := fun _ => Int) (fun m => Int.rec (motive := fun _ => Int) (fun n => Bool.rec (motive := fun _ => Int) (Int.sub (.ofNat m) (.ofNat n)) (.ofNat (Nat.sub m n)) (Nat.ble n m)) (fun n => Int.sub (.ofNat m) (.negSucc n)) y) (fun m => Int.sub (.negSucc m) y) x
noncomputable def imul (x y : Int) : Int :=
  Int.rec (motive := fun _ => Int) (fun m => Int.rec (motive := fun _ => Int) (fun n => .ofNat (Nat.mul m n)) (fun n => Int.mul (.ofNat m) (.negSucc n)) y) (fun m => Int.mul (.negSucc m) y) x
noncomputable def ilt (x y : Int) : Bool :=
  Int.rec (motive := fun _ => Bool) (fun m => Int.rec (motive := fun _ => Bool) (fun n => Nat.blt m n) (fun _ => false) y)
    (fun m => Int.rec (motive := fun _ => Bool) (fun _ => true) (fun n => Nat.blt n m) y) x
noncomputable def ieq (x y : Int) : Bool :=
  Int.rec (motive := fun _ => Bool) (fun m => Int.rec (motive := fun _ => Bool) (fun n => Nat.beq m n) (fun _ => false) y)
    (fun m => Int.rec (motive := fun _ => Bool) (fun _ => false) (fun n => Nat.beq n m) y) x
/-- the greatest number of a kind -/
noncomputable def kmax (k : IntKind) : Nat := IntKind.rec (motive := fun _ => Nat) 127 32767 2147483647 9223372036854775807 255 65535 4294967295 18446744073709551615 k
noncomputable def wrapI (k : IntKind) (n : Int) : Int :=
  Int.rec (motive := fun _ => Int) (fun m => Bool.rec (motive := fun _ => Int) (IntKind.wrap k n) n (Nat.ble m (kmax k)))
    (fun m => Bool.rec (motive := fun _ => Int) (IntKind.wrap k n) (Bool.rec (motive := fun _ => Int) (IntKind.wrap k n) n (Nat.ble m (kmax k))) (Nat.blt (kn k) 4)) n

/- lists and trees -/
noncomputable def fillT (l : List AV) : Nat → TT → TT :=
  List.rec (motive := fun _ => Nat → TT → TT) (fun _ t => t) (fun v _ ih i t => ih (Nat.succ i) (tset t i v)) l
/-- n cells of cs from off on, laid into acc from i on -/
noncomputable def copyT (n : Nat) : TT → Nat → TT → Nat → TT :=
  Nat.rec (motive := fun _ => TT → Nat → TT → Nat → TT) (fun _ _ acc _ => acc) (fun _ ih cs off acc i => ih cs (Nat.succ off) (tset acc i (tget cs off)) (Nat.succ i)) n
noncomputable def subT (cs : TT) (off n : Nat) : TT := Nat.rec (motive := fun _ => TT) cs (fun o _ => copyT n cs (Nat.succ o) .nil 0) off
noncomputable def readL (n : Nat) : TT → Nat → List AV :=
  Nat.rec (motive := fun _ => TT → Nat → List AV) (fun _ _ => []) (fun _ ih cs off => tget cs off :: ih cs (Nat.succ off)) n

/- constants -/
def toSc : Value → Option AV
  | .bool b => some (.bool b)
  | .int k n => some (.int k n)
  | .float k n => some (.flt k n)
  | .string s => some (.str (s.data.toList.map UInt8.toNat))
  | .pointer none => some .nilp
  | .slice none 0 0 => some .nils
  | .map none => some .nilm
  | .func (.func f) first captured => if first.isEmpty && captured.isEmpty then some (.fn f []) else none
  | .nilFunc => some .nilf
  | .nilIface => some .nili
  | _ => none
def toScs : List Value → Option (List AV)
  | [] => some []
  | v :: vs => match toSc v, toScs vs with
    | some x, some xs => some (x :: xs)
    | _, _ => none
noncomputable def toAV : Value → Option AV
  | .agg cs => (toScs cs.toList).map fun l => .agg (fillT l 0 .nil) l.length
  | .tuple vs => if vs.isEmpty then some .undef else none
  | v => toSc v
noncomputable def opG : Operand → Option (TT → AV)
  | .tmp i => some (Tr.getC .undef (path i))
  | .const v => (toAV v).map fun x _ => x
  | .global g => some fun _ => .gptr g 0
  | .func f => some fun _ => .fn f []
noncomputable def opGs : List Operand → Option (List (TT → AV))
  | [] => some []
  | x :: xs => match opG x, opGs xs with
    | some g, some gs => some (g :: gs)
    | _, _ => none

/-- A compiled operation. -/
inductive K where
  | bad
  /-- a value; nothing changes -/
  | val (f : TT → HH → (AV → Nat) → Nat)
  /-- a new block, and what is made of its number -/
  | alc (f : TT → HH → (ABlk → (Nat → AV) → Nat) → Nat)
  | wr (f : TT → HH → Nat → (AV → HH → Nat → Nat) → Nat)
  | call (f : TT → (Nat → List AV → Nat) → Nat)
  /-- a call of a function value: a function, or the yield of a loop -/
  | callv (f : TT → (Nat → List AV → Nat) → (Nat → List AV → Nat) → Nat)
  | dfr (f : TT → (Nat → List AV → Nat) → Nat)
  | rcv

noncomputable def K.of (o : Option K) : K := match o with | some k => k | none => .bad

section ops
variable (C : Ctx) (e : Nat)

noncomputable def kMove (x : Operand) : Option K := do
  let g ← opG x
  return .val fun t _ k => k (g t)
noncomputable def kPick (c a b : Operand) : Option K := do
  let gc ← opG c
  let ga ← opG a
  let gb ← opG b
  return .val fun t _ k => asBool e (gc t) fun x => Bool.rec (motive := fun _ => Nat) (k (gb t)) (k (ga t)) x
noncomputable def zeroCells (t : Nat) : Option (TT × Nat) := do
  let i ← C.ti t
  let z ← i.zero
  let l ← toScs z.cells.toList
  return (fillT l 0 .nil, l.length)
noncomputable def kAlloc (t : Nat) : Option K := do
  let (z, n) ← zeroCells C t
  return .alc fun _ _ k => k (.cells z n 0 true) (fun b => .ptr b 0)
noncomputable def kBox (x : Operand) : Option K := do
  let g ← opG x
  return .alc fun t _ k => (fun v => asCells e v (k (.cells (tset .nil 0 v) 1 0 true) (fun b => .ptr b 0)) (fun cs n => k (.cells cs n 0 true) (fun b => .ptr b 0))) (g t)
/-- parts laid into acc: each a value, where, how many cells -/
noncomputable def buildL (l : List ((TT → AV) × Nat × Nat)) : TT → Nat → TT → (TT → Nat) → Nat :=
  List.rec (motive := fun _ => TT → Nat → TT → (TT → Nat) → Nat) (fun _ _ acc k => k acc)
    (fun p _ ih t n acc k => (fun v => asCells e v (guardN e (Nat.beq p.2.2 1) (guardN e (Nat.blt p.2.1 n) (ih t n (tset acc p.2.1 v) k)))
      (fun cs m => guardN e (Nat.beq m p.2.2) (guardN e (Nat.ble (Nat.add p.2.1 m) n) (ih t n (copyT m cs 0 acc p.2.1) k)))) (p.1 t)) l
noncomputable def partsAt (place : Nat → Option (Nat × Nat)) : List (Nat × Operand) → Option (List ((TT → AV) × Nat × Nat))
  | [] => some []
  | (i, x) :: ps => match place i, opG x, partsAt place ps with
    | some p, some g, some r => some ((g, p) :: r)
    | _, _, _ => none
noncomputable def placesOf : List Field → Option (List (Nat × Nat))
  | [] => some []
  | f :: fs => match C.size f.type, placesOf fs with
    | some s, some r => some ((f.offset, s) :: r)
    | _, _ => none
noncomputable def kBuild (ty : Nat) (parts : List (Nat × Operand)) : Option K := do
  let (z, n) ← zeroCells C ty
  let d ← C.und ty
  match d with
  | .struct fields =>
    let ps ← placesOf C fields.toList
    let l ← partsAt (fun i => ps[i]?) parts
    return .val fun t _ k => buildL e l t n z fun cs => k (.agg cs n)
  | .array _ elem =>
    let s ← C.size elem
    let l ← partsAt (fun i => some (i * s, s)) parts
    return .val fun t _ k => buildL e l t n z fun cs => k (.agg cs n)
  | _ => none
noncomputable def kBuildSlice (ty len : Nat) (parts : List (Nat × Operand)) : Option K := do
  let d ← C.und ty
  match d with
  | .slice elem =>
    let s ← C.size elem
    let i ← C.ti elem
    let z ← i.zero
    let l ← toScs z.cells.toList
    let ps ← partsAt (fun i => some (i * s, s)) parts
    let n := len * s
    if l.length = s && n ≤ 65536 && 0 < s then
      let zt := fillT (List.replicate len l).flatten 0 .nil
      return .alc fun t _ k => buildL e ps t n zt fun cs => k (.cells cs n 0 true) (fun b => .slice b 0 len false len)
    else none
  | _ => none
noncomputable def kLoad (ty : Nat) (a : Operand) : Option K := do
  let g ← opG a
  let agg ← C.isAgg ty
  let s ← C.size ty
  if agg then
    return .val fun t h k => asPtr e (g t) fun b off => blkCells e (hget h b) fun cs n _ _ => guardN e (Nat.ble (Nat.add off s) n) (k (.agg (subT cs off s) s))
  else
    let gl := C.gl
    return .val fun t h k => (fun v => AV.rec (motive_1 := fun _ => Nat) (motive_2 := fun _ => Unit) (motive_3 := fun _ => Unit)
      e e e e e e e e (fun _ _ => e) (fun _ _ => e) (fun _ _ => e) (fun _ _ _ => e) (fun b off => (fun w => AV.rec (motive_1 := fun _ => Nat) (motive_2 := fun _ => Unit) (motive_3 := fun _ => Unit)
          e e e e e e e e (fun _ _ => e) (fun _ _ => e) (fun _ _ => e) (fun _ _ _ => e) (fun _ _ => e) (fun _ => e) (fun _ => e) (fun _ _ _ _ _ => e) (fun _ _ => e) (fun _ => e) (fun kd x => k (.int kd x))
          (fun _ => e) () (fun _ _ _ _ => ()) () (fun _ _ _ _ _ _ => ()) w) (gl b off)) (fun _ => e) (fun _ => e) (fun _ _ _ _ _ => e)
      (fun b off => blkCells e (hget h b) fun cs n _ _ => guardN e (Nat.blt off n) (k (tget cs off))) (fun _ => e) (fun _ _ => e)
      (fun _ => e) () (fun _ _ _ _ => ()) () (fun _ _ _ _ _ _ => ()) v) (g t)
noncomputable def kStore (ty : Nat) (a x : Operand) : Option K := do
  let ga ← opG a
  let gx ← opG x
  let s ← C.size ty
  return .wr fun t h n k => asPtr e (ga t) fun b off => blkCells e (hget h b) fun cs m esz cl =>
    (fun v => asCells e v (guardN e (Nat.beq s 1) (guardN e (Nat.blt off m) (k .undef (hset h b (.cells (tset cs off v) m esz cl)) n)))
      (fun vs q => guardN e (Nat.beq q s) (guardN e (Nat.ble (Nat.add off q) m) (k .undef (hset h b (.cells (copyT q vs 0 cs off) m esz cl)) n)))) (gx t)
noncomputable def kNilCheck (x : Operand) : Option K := do
  let g ← opG x
  return .val fun t _ k => (fun v => asPtr e v fun _ _ => k v) (g t)
end ops
end Go.Ae
