/- The abstract evaluator: operations, the second part. -/
import Derived.Test.YtjmammdlefbemaaGreatDoorAeD
namespace Go.Ae

section ops
variable (C : Ctx) (e : Nat)

noncomputable def asNat (v : AV) (k : Nat → Nat) : Nat := asInt e v fun _ n => Int.rec (motive := fun _ => Nat) k (fun _ => e) n

noncomputable def addF (off c : Nat) (k : Nat → Nat) : Nat := Nat.rec (motive := fun _ => Nat) (k off) (fun _ _ => forceN (Nat.add off c) k) c

noncomputable def kFieldAddr (s : Nat) (x : Operand) (i : Nat) : Option K := do
  let g ← opG x
  let d ← C.und s
  match d with
  | .struct fields =>
    let f ← fields[i]?
    let sz ← C.size f.type
    if sz = 0 then none else
    let fo := f.offset
    return .val fun t _ k => asPtr e (g t) fun b off => addF off fo fun o => k (.ptr b o)
  | _ => none

/-- a pointer, of a global too -/
noncomputable def asPtrG (v : AV) (kg : Nat → Nat → Nat) (k : Nat → Nat → Nat) : Nat :=
  AV.rec (motive_1 := fun _ => Nat) (motive_2 := fun _ => Unit) (motive_3 := fun _ => Unit)
    e e e e e e e e (fun _ _ => e) (fun _ _ => e) (fun _ _ => e) (fun _ _ _ => e) kg (fun _ => e) (fun _ => e) (fun _ _ _ _ _ => e) k (fun _ => e) (fun _ _ => e)
    (fun _ => e) () (fun _ _ _ _ => ()) () (fun _ _ _ _ _ _ => ()) v

noncomputable def kIndexAddr (ty : Nat) (x i : Operand) : Option K := do
  let gx ← opG x
  let gi ← opG i
  let d ← C.und ty
  match d with
  | .array len elem =>
    let s ← C.size elem
    return .val fun t _ k => asNat e (gi t) fun m => guardN e (Nat.blt m len) (asPtrG e (gx t) (fun b off => forceN (Nat.add off (Nat.mul m s)) fun o => k (.gptr b o)) (fun b off => forceN (Nat.add off (Nat.mul m s)) fun o => k (.ptr b o)))
  | .slice elem =>
    let s ← C.size elem
    return .val fun t _ k => asNat e (gi t) fun m => asSlice e (gx t) e (fun _ => e) fun b off len _ _ => guardN e (Nat.blt m len) (forceN (Nat.add off (Nat.mul m s)) fun o => k (.ptr b o))
  | _ => none

noncomputable def nthL {α : Type} (l : List α) : Nat → (α → Nat) → Nat :=
  List.rec (motive := fun _ => Nat → (α → Nat) → Nat) (fun _ _ => e) (fun x _ ih i k => Nat.rec (motive := fun _ => Nat) (k x) (fun j _ => ih j k) i) l

/-- a part of cells: an aggregate, or one cell -/
noncomputable def partK (agg : Bool) (s : Nat) (cs : TT) (n off : Nat) (k : AV → Nat) : Nat :=
  Bool.rec (motive := fun _ => Nat) (guardN e (Nat.blt off n) (k (tget cs off))) (guardN e (Nat.ble (Nat.add off s) n) (k (.agg (subT cs off s) s))) agg

noncomputable def kField (ty : Nat) (x : Operand) (i : Nat) : Option K := do
  let g ← opG x
  let d ← C.und ty
  match d with
  | .struct fields =>
    let f ← fields[i]?
    let agg ← C.isAgg f.type
    let s ← C.size f.type
    let fo := f.offset
    return .val fun t _ k => asAgg e (g t) fun cs n => partK e agg s cs n fo k
  | _ => none

noncomputable def kIndex (ty : Nat) (x i : Operand) : Option K := do
  let gx ← opG x
  let gi ← opG i
  let d ← C.und ty
  match d with
  | .array len elem =>
    let agg ← C.isAgg elem
    let s ← C.size elem
    return .val fun t _ k => asNat e (gi t) fun m => guardN e (Nat.blt m len) (asAgg e (gx t) fun cs n => partK e agg s cs n (Nat.mul m s) k)
  | .string => return .val fun t _ k => asNat e (gi t) fun m => asStr e (gx t) fun bs => nthL e bs m fun b => forceN (Nat.mod b 256) fun b => k (.int .u8 (.ofNat b))
  | _ => none

noncomputable def kExtract (x : Operand) (i : Nat) : Option K := do
  let g ← opG x
  return .val fun t _ k => asTuple e (g t) fun vs => nthL e vs i k

noncomputable def lenN {α : Type} (l : List α) : Nat := List.rec (motive := fun _ => Nat) 0 (fun _ _ ih => Nat.succ ih) l

noncomputable def kLen (ty : Nat) (x : Operand) : Option K := do
  let g ← opG x
  let d ← C.und ty
  match d with
  | .string => return .val fun t _ k => asStr e (g t) fun bs => forceN (lenN bs) fun n => k (.int .i64 (.ofNat n))
  | .slice _ => return .val fun t _ k => asSlice e (g t) (k (.int .i64 (.ofNat 0))) (fun _ => k (.int .i64 (.ofNat 0))) fun _ _ len _ _ => k (.int .i64 (.ofNat len))
  | .map _ _ => return .val fun t h k => asMap e (g t) fun b => blkMap e (hget h b) fun es => forceN (lenN es) fun n => k (.int .i64 (.ofNat n))
  | .array n _ => return .val fun _ _ k => k (.int .i64 (.ofNat n))
  | _ => none

noncomputable def kMakeFunc (f : Fn) (first captured : List Operand) : Option K := do
  match f, first with
  | .func f, [] =>
    let gs ← opGs captured
    return .val fun t _ k => List.rec (motive := fun _ => (List (Nat × Nat) → Nat) → Nat) (fun j => j []) (fun g _ ih j => asPtr e (g t) fun b off => ih fun l => j ((b, off) :: l)) gs fun l => k (.fn f l)
  | _, _ => none

noncomputable def kMakeMap : Option K := some (.alc fun _ _ k => k (.map []) (fun b => .map b))

noncomputable def kMakeSlice (ty : Nat) (l c : Operand) : Option K := do
  let gl ← opG l
  let gc ← opG c
  let d ← C.und ty
  match d with
  | .slice elem =>
    let i ← C.ti elem
    let z ← i.zero
    let zl ← toScs z.cells.toList
    if zl.length = i.size && i.bytes ≤ 65536 && 0 < i.size then
      return .alc fun t _ k => asNat e (gl t) fun n => asNat e (gc t) fun m => guardN e (Nat.ble n m) (guardN e (Nat.ble m 65536) (forceN (Nat.mul m i.size) fun q => k (.cells (fillT (List.flatten (List.replicate m zl)) 0 .nil) q 0 true) (fun b => .slice b 0 n false m)))
    else none
  | _ => none

/- slicing -/
/-- a bound: none (k 0), or a number -/
noncomputable def optN (g : Option (TT → AV)) (t : TT) (k0 : Nat) (k : Nat → Nat) : Nat :=
  match g with | some g => asNat e (g t) k | none => k0
noncomputable def opGo : Option Operand → Option (Option (TT → AV))
  | none => some none
  | some x => (opG x).map some

noncomputable def dropL (n : Nat) : List Nat → List Nat :=
  Nat.rec (motive := fun _ => List Nat → List Nat) (fun l => l) (fun _ ih l => List.rec (motive := fun _ => List Nat) [] (fun _ t _ => ih t) l) n
noncomputable def takeL (n : Nat) : List Nat → List Nat :=
  Nat.rec (motive := fun _ => List Nat → List Nat) (fun _ => []) (fun _ ih l => List.rec (motive := fun _ => List Nat) [] (fun x t _ => x :: ih t) l) n

/-- the slice [l:h] of one with a block; m: the third bound, if there is one -/
noncomputable def sliceK (s b off len : Nat) (op : Bool) (c l h : Nat) (m : Option Nat) (k : AV → Nat) : Nat :=
  match m with
  | some m => guardN e (Nat.ble l h) (guardN e (Nat.ble h m) (guardN e (Nat.ble m len)
      (forceN (Nat.sub h l) fun n => forceN (Nat.sub m l) fun c' => ite2 (Nat.beq m l) (k (.slice b off n false c')) (forceN (Nat.add off (Nat.mul l s)) fun o => k (.slice b o n false c')))))
  | none => guardN e (Nat.ble l h) (guardN e (Nat.ble h len)
      (Bool.rec (motive := fun _ => Nat)
        (guardN e (Nat.ble len c) (forceN (Nat.sub h l) fun n => forceN (Nat.sub c l) fun c' => ite2 (Nat.beq c l) (k (.slice b off n false c')) (forceN (Nat.add off (Nat.mul l s)) fun o => k (.slice b o n false c'))))
        (ite2 (Nat.beq l 0) (k (.slice b off h true c))
          (ite2 (Nat.beq l len) (k .voidO)
            (forceN (Nat.sub h l) fun n => forceN (Nat.add c l) fun c' => forceN (Nat.add off (Nat.mul l s)) fun o => k (.slice b o n true c')))) op))

noncomputable def kSlice (ty : Nat) (x : Operand) (lo hi mx : Option Operand) : Option K := do
  let gx ← opG x
  let gl ← opGo lo
  let gh ← opGo hi
  let gm ← opGo mx
  let d ← C.und ty
  match d, gm with
  | .string, none =>
    return .val fun t _ k => asStr e (gx t) fun bs => (fun kk => optN e gl t (kk 0) kk) fun l => (fun kk => optN e gh t (kk (lenN bs)) kk) fun h =>
      guardN e (Nat.ble l h) (guardN e (Nat.ble h (lenN bs)) (k (.str (takeL (Nat.sub h l) (dropL l bs)))))
  | .slice elem, none => do
    let s ← C.size elem
    return .val fun t _ k => (fun kk => optN e gl t (kk 0) kk) fun l => asSlice e (gx t)
      ((fun kk => optN e gh t (kk 0) kk) fun h => guardN e (Nat.beq l 0) (guardN e (Nat.beq h 0) (k .nils)))
      (fun ex => (fun kk => optN e gh t (kk 0) kk) fun h => guardN e (Nat.beq l 0) (guardN e (Nat.beq h 0) (ite2 ex (k .voidE) (k .voidO))))
      fun b off len op c => (fun kk => optN e gh t (kk len) kk) fun h => sliceK e s b off len op c l h none k
  | .slice elem, some gm => do
    let s ← C.size elem
    match gh with
    | none => none
    | some gh =>
      return .val fun t _ k => (fun kk => optN e gl t (kk 0) kk) fun l => asNat e (gh t) fun h => asNat e (gm t) fun m => asSlice e (gx t)
        (guardN e (Nat.beq l 0) (guardN e (Nat.beq h 0) (guardN e (Nat.beq m 0) (k .nils))))
        (fun _ => guardN e (Nat.beq l 0) (guardN e (Nat.beq h 0) (guardN e (Nat.beq m 0) (k .voidE))))
        fun b off len op c => Bool.rec (motive := fun _ => Nat) (guardN e (Nat.ble len c) (sliceK e s b off len op c l h (some m) k)) (sliceK e s b off len op c l h (some m) k) op
  | .array n elem, none => do
    let s ← C.size elem
    return .val fun t _ k => asPtr e (gx t) fun b off => (fun kk => optN e gl t (kk 0) kk) fun l => (fun kk => optN e gh t (kk n) kk) fun h => sliceK e s b off n false n l h none k
  | _, _ => none
end ops
end Go.Ae
