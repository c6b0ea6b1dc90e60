/- The abstract evaluator: numbers, strings, comparisons. -/
import Derived.Test.YtjmammdlefbemaaGreatDoorAeH
set_option linter.unusedVariables false
set_option linter.unusedSectionVars false
namespace Go.Ae

theorem iadd_eq (x y : Int) : iadd x y = x + y := by cases x <;> cases y <;> rfl
theorem isub_eq (x y : Int) : isub x y = x - y := by
  cases x with
  | ofNat m =>
    cases y with
    | ofNat n =>
      show Bool.rec (motive := fun _ => Int) (Int.sub (.ofNat m) (.ofNat n)) (.ofNat (Nat.sub m n)) (Nat.ble n m) = _
      cases h : Nat.ble n m with
      | false => rfl
      | true =>
        have : n ≤ m := ble_le h
        show Int.ofNat (m - n) = (m : Int) - (n : Int)
        exact Int.ofNat_sub this
    | negSucc n => rfl
  | negSucc m => cases y <;> rfl
theorem imul_eq (x y : Int) : imul x y = x * y := by cases x <;> cases y <;> rfl
theorem ilt_eq (x y : Int) : ilt x y = decide (x < y) := by
  cases x with
  | ofNat m =>
    cases y with
    | ofNat n => show Nat.blt m n = _; rw [Bool.eq_iff_iff]; simp [Nat.blt_eq]
    | negSucc n => show false = _; symm; rw [decide_eq_false_iff_not]; show ¬ ((m : Int) < Int.negSucc n); omega
  | negSucc m =>
    cases y with
    | ofNat n => show true = _; symm; rw [decide_eq_true_iff]; show Int.negSucc m < (n : Int); omega
    | negSucc n => show Nat.blt n m = _; rw [Bool.eq_iff_iff]; simp [Nat.blt_eq]; omega
theorem ieq_eq (x y : Int) : ieq x y = decide (x = y) := by
  cases x with
  | ofNat m =>
    cases y with
    | ofNat n => show Nat.beq m n = _; rw [Bool.eq_iff_iff]; simp [Nat.beq_eq]; omega
    | negSucc n => show false = _; symm; rw [decide_eq_false_iff_not]; show ¬ ((m : Int) = Int.negSucc n); omega
  | negSucc m =>
    cases y with
    | ofNat n => show false = _; symm; rw [decide_eq_false_iff_not]; show ¬ (Int.negSucc m = (n : Int)); omega
    | negSucc n => show Nat.beq n m = _; rw [Bool.eq_iff_iff]; simp [Nat.beq_eq]; omega
theorem kn_inj {a b : IntKind} (h : Nat.beq (kn a) (kn b) = true) : a = b := by
  have := beq_nat h
  cases a <;> cases b <;> first | rfl | (exact absurd this (by decide))

theorem wrap_in {k : IntKind} {n : Int} (h1 : k.min ≤ n) (h2 : n ≤ k.max) : k.wrap n = n := by
  cases k <;> simp [IntKind.min, IntKind.max, IntKind.wrap, IntKind.signed, IntKind.bits] at * <;> (try split) <;> omega

theorem kmax_eq (k : IntKind) : (kmax k : Int) = k.max := by cases k <;> simp [kmax, IntKind.max, IntKind.signed, IntKind.bits]

theorem wrapI_eq (k : IntKind) (n : Int) : wrapI k n = k.wrap n := by
  cases n with
  | ofNat m =>
    show Bool.rec (motive := fun _ => Int) (IntKind.wrap k (.ofNat m)) (.ofNat m) (Nat.ble m (kmax k)) = _
    cases h : Nat.ble m (kmax k) with
    | false => rfl
    | true =>
      have h := ble_le h
      have := kmax_eq k
      refine (wrap_in ?_ ?_).symm
      · have : k.min ≤ 0 := by cases k <;> simp [IntKind.min, IntKind.signed, IntKind.bits]
        show k.min ≤ (m : Int)
        omega
      · show (m : Int) ≤ k.max
        omega
  | negSucc m =>
    show Bool.rec (motive := fun _ => Int) (IntKind.wrap k (.negSucc m)) (Bool.rec (motive := fun _ => Int) (IntKind.wrap k (.negSucc m)) (.negSucc m) (Nat.ble m (kmax k))) (Nat.blt (kn k) 4) = _
    cases h4 : Nat.blt (kn k) 4 with
    | false => rfl
    | true =>
      cases h : Nat.ble m (kmax k) with
      | false => rfl
      | true =>
        have h := ble_le h
        have h4 := blt_lt h4
        refine (wrap_in ?_ ?_).symm
        · cases k <;> simp [IntKind.min, IntKind.signed, IntKind.bits, kmax, kn] at * <;> omega
        · cases k <;> simp [IntKind.max, IntKind.signed, IntKind.bits, kmax, kn] at * <;> omega

theorem forceI_eq (n : Int) (k : Int → Nat) : forceI n k = k n := by
  cases n with
  | ofNat m => show forceN m (fun m => k (.ofNat m)) = _; rw [forceN_eq]
  | negSucc m => show forceN m (fun m => k (.negSucc m)) = _; rw [forceN_eq]

noncomputable def forceB (b : Bool) (k : Bool → Nat) : Nat := Bool.rec (motive := fun _ => Nat) (k false) (k true) b
theorem forceB_eq (b : Bool) (k : Bool → Nat) : forceB b k = k b := by cases b <;> rfl

noncomputable def kbits (k : IntKind) : Nat := IntKind.rec (motive := fun _ => Nat) 8 16 32 64 8 16 32 64 k
noncomputable def kmask (k : IntKind) : Nat := IntKind.rec (motive := fun _ => Nat) 255 65535 4294967295 18446744073709551615 255 65535 4294967295 18446744073709551615 k
theorem kbits_eq (k : IntKind) : kbits k = k.bits := by cases k <;> rfl
theorem kmask_eq (k : IntKind) : kmask k = 2 ^ k.bits - 1 := by cases k <;> rfl
theorem kmax_le (k : IntKind) : kmax k ≤ kmask k := by cases k <;> decide

section defs
variable (C : Ctx) (e : Nat)

/-- two numbers of one kind -/
noncomputable def int2 (gx gy : TT → AV) (t : TT) (k : IntKind → Int → Int → Nat) : Nat :=
  asInt e (gx t) fun ka a => asInt e (gy t) fun kb b => guardN e (Nat.beq (kn ka) (kn kb)) (k ka a b)
/-- two numbers of one kind, not below 0, that fit it -/
noncomputable def nat2 (gx gy : TT → AV) (t : TT) (k : IntKind → Nat → Nat → Nat) : Nat :=
  int2 e gx gy t fun ka a b => Int.rec (motive := fun _ => Nat) (fun m => Int.rec (motive := fun _ => Nat) (fun n => guardN e (Nat.ble m (kmax ka)) (guardN e (Nat.ble n (kmax ka)) (k ka m n))) (fun _ => e) b) (fun _ => e) a

noncomputable def arith (f : Int → Int → Int) (gx gy : TT → AV) : K :=
  .val fun t _ k => int2 e gx gy t fun ka a b => forceI (wrapI ka (f a b)) fun r => k (.int ka r)
noncomputable def cmp (f : Int → Int → Bool) (gx gy : TT → AV) : K :=
  .val fun t _ k => int2 e gx gy t fun _ a b => forceB (f a b) fun r => k (.bool r)
noncomputable def natop (f : IntKind → Nat → Nat → Nat) (gx gy : TT → AV) : K :=
  .val fun t _ k => nat2 e gx gy t fun ka a b => forceI (wrapI ka (.ofNat (f ka a b))) fun r => k (.int ka r)
noncomputable def divop (f : Nat → Nat → Nat) (gx gy : TT → AV) : K :=
  .val fun t _ k => nat2 e gx gy t fun ka a b => guardN e (Nat.blt 0 b) (forceI (wrapI ka (.ofNat (f a b))) fun r => k (.int ka r))
noncomputable def shiftop (left : Bool) (gx gy : TT → AV) : K :=
  .val fun t _ k => asInt e (gx t) fun ka a => asNat e (gy t) fun y => Int.rec (motive := fun _ => Nat) (fun m => (fun n =>
      Bool.rec (motive := fun _ => Nat) (forceN (Nat.shiftRight m n) fun r => k (.int ka (.ofNat r))) (forceI (wrapI ka (.ofNat (Nat.shiftLeft m n))) fun r => k (.int ka r)) left)
      (Bool.rec (motive := fun _ => Nat) (kbits ka) y (Nat.ble y (kbits ka)))) (fun _ => e) a

noncomputable def kBinInt (op : BinOp) (gx gy : TT → AV) : Option K :=
  match op with
  | .add => some (arith e iadd gx gy)
  | .sub => some (arith e isub gx gy)
  | .mul => some (arith e imul gx gy)
  | .quo => some (divop e Nat.div gx gy)
  | .rem => some (divop e Nat.mod gx gy)
  | .and => some (natop e (fun _ => Nat.land) gx gy)
  | .or => some (natop e (fun _ => Nat.lor) gx gy)
  | .andNot => some (natop e (fun k a b => Nat.land a (Nat.sub (kmask k) b)) gx gy)
  | .shl => some (shiftop e true gx gy)
  | .shr => some (shiftop e false gx gy)
  | .eql => some (cmp e ieq gx gy)
  | .neq => some (cmp e (fun a b => not (ieq a b)) gx gy)
  | .lss => some (cmp e ilt gx gy)
  | .leq => some (cmp e (fun a b => not (ilt b a)) gx gy)
  | .gtr => some (cmp e (fun a b => ilt b a) gx gy)
  | .geq => some (cmp e (fun a b => not (ilt a b)) gx gy)
  | _ => none
end defs

section
variable {P : Program} {C : Ctx} (H : CtxOK P C) {e : Nat} (he : e ≠ 0)

include he in
theorem int2_ok {gx gy : TT → AV} {t : TT} {k : IntKind → Int → Int → Nat} (h : int2 e gx gy t k = 0) : ∃ ka a b, gx t = .int ka a ∧ gy t = .int ka b ∧ k ka a b = 0 := by
  obtain ⟨ka, a, ha, h1⟩ := asInt_ok he h
  obtain ⟨kb, b, hb, h2⟩ := asInt_ok he h1
  obtain ⟨hk, h3⟩ := guardN_ok he h2
  have hkk := kn_inj hk
  rw [← hkk] at hb
  exact ⟨ka, a, b, ha, hb, h3⟩

include he in
theorem nat2_ok {gx gy : TT → AV} {t : TT} {k : IntKind → Nat → Nat → Nat} (h : nat2 e gx gy t k = 0) :
    ∃ ka a b, gx t = .int ka (Int.ofNat a) ∧ gy t = .int ka (Int.ofNat b) ∧ a ≤ kmax ka ∧ b ≤ kmax ka ∧ k ka a b = 0 := by
  obtain ⟨ka, a, b, ha, hb, h⟩ := int2_ok he h
  cases a with
  | negSucc m => exact absurd h he
  | ofNat m =>
    cases b with
    | negSucc n => exact absurd h he
    | ofNat n =>
      obtain ⟨h1, h⟩ := guardN_ok he h
      obtain ⟨h2, h⟩ := guardN_ok he h
      exact ⟨ka, m, n, ha, hb, ble_le h1, ble_le h2, h⟩

theorem eqGuard_int (op : BinOp) (ty : TypeId) (x y : Operand) (ka kb : IntKind) (a b : Int) (w : World) : (eqGuard op ty x y (.int ka a) (.int kb b)).run P w = .ok () w := by
  cases op <;> rfl

/-- what an operation on two numbers does -/
theorem exec_int2 {o : Oper} {op : BinOp} {ty yt : TypeId} {x y : Operand} (ho : o.op = .binOp op ty x y yt) {a : Act} {ka kb : IntKind} {m n : Int} (hx : a.eval x = .int ka m) (hy : a.eval y = .int kb n)
    {V : Value} {w : World} (h : (binOp op ty (.int ka m) (.int kb n)).run P w = .ok V w) : (execOp a.eval o).run P w = .ok (.value V) w := by
  simp only [execOp, ho, Sem.run_bind, hx, hy, eqGuard_int, Result.andThen_ok, h, Sem.run_pure]

include he in
theorem arith_ok {o : Oper} {op : BinOp} {ty yt : TypeId} {x y : Operand} (ho : o.op = .binOp op ty x y yt) {gx gy : TT → AV} (hgx : opG x = some gx) (hgy : opG y = some gy) {f : Int → Int → Int}
    (hf : ∀ k a b w, (binOp op ty (.int k a) (.int k b)).run P w = .ok (.int k (k.wrap (f a b))) w) : KOK P C o (arith e f gx gy) := by
  intro t h k hk
  obtain ⟨ka, a, b, ha, hb, hk⟩ := int2_ok he hk
  rw [forceI_eq, wrapI_eq] at hk
  refine ⟨_, hk, fun base Γ n w act hgl R ht => ⟨_, exec_int2 ho ?_ ?_ (hf ka a b w), .int _ _⟩⟩
  · have := opG_ok hgx ht; rw [ha] at this; exact this.int_inv
  · have := opG_ok hgy ht; rw [hb] at this; exact this.int_inv

include he in
theorem cmp_ok {o : Oper} {op : BinOp} {ty yt : TypeId} {x y : Operand} (ho : o.op = .binOp op ty x y yt) {gx gy : TT → AV} (hgx : opG x = some gx) (hgy : opG y = some gy) {f : Int → Int → Bool}
    (hf : ∀ k a b w, (binOp op ty (.int k a) (.int k b)).run P w = .ok (.bool (f a b)) w) : KOK P C o (cmp e f gx gy) := by
  intro t h k hk
  obtain ⟨ka, a, b, ha, hb, hk⟩ := int2_ok he hk
  rw [forceB_eq] at hk
  refine ⟨_, hk, fun base Γ n w act hgl R ht => ⟨_, exec_int2 ho ?_ ?_ (hf ka a b w), .bool _⟩⟩
  · have := opG_ok hgx ht; rw [ha] at this; exact this.int_inv
  · have := opG_ok hgy ht; rw [hb] at this; exact this.int_inv

include he in
theorem natop_ok {o : Oper} {op : BinOp} {ty yt : TypeId} {x y : Operand} (ho : o.op = .binOp op ty x y yt) {gx gy : TT → AV} (hgx : opG x = some gx) (hgy : opG y = some gy) {f : IntKind → Nat → Nat → Nat}
    (hf : ∀ k (a b : Nat) w, a ≤ kmax k → b ≤ kmax k → (binOp op ty (.int k (Int.ofNat a)) (.int k (Int.ofNat b))).run P w = .ok (.int k (k.wrap (Int.ofNat (f k a b)))) w) : KOK P C o (natop e f gx gy) := by
  intro t h k hk
  obtain ⟨ka, a, b, ha, hb, h1, h2, hk⟩ := nat2_ok he hk
  rw [forceI_eq, wrapI_eq] at hk
  refine ⟨_, hk, fun base Γ n w act hgl R ht => ⟨_, exec_int2 ho ?_ ?_ (hf ka a b w h1 h2), .int _ _⟩⟩
  · have := opG_ok hgx ht; rw [ha] at this; exact this.int_inv
  · have := opG_ok hgy ht; rw [hb] at this; exact this.int_inv

include he in
theorem divop_ok {o : Oper} {op : BinOp} {ty yt : TypeId} {x y : Operand} (ho : o.op = .binOp op ty x y yt) {gx gy : TT → AV} (hgx : opG x = some gx) (hgy : opG y = some gy) {f : Nat → Nat → Nat}
    (hf : ∀ k (a b : Nat) w, a ≤ kmax k → 0 < b → (binOp op ty (.int k (Int.ofNat a)) (.int k (Int.ofNat b))).run P w = .ok (.int k (k.wrap (Int.ofNat (f a b)))) w) : KOK P C o (divop e f gx gy) := by
  intro t h k hk
  obtain ⟨ka, a, b, ha, hb, h1, h2, hk⟩ := nat2_ok he hk
  obtain ⟨h3, hk⟩ := guardN_ok he hk
  rw [forceI_eq, wrapI_eq] at hk
  refine ⟨_, hk, fun base Γ n w act hgl R ht => ⟨_, exec_int2 ho ?_ ?_ (hf ka a b w h1 (blt_lt h3)), .int _ _⟩⟩
  · have := opG_ok hgx ht; rw [ha] at this; exact this.int_inv
  · have := opG_ok hgy ht; rw [hb] at this; exact this.int_inv

theorem lt_pow_of_kmax {k : IntKind} {a : Nat} (h : a ≤ kmax k) : a < 2 ^ k.bits := by
  have h1 := kmax_le k
  have h2 := kmask_eq k
  have : 0 < 2 ^ k.bits := Nat.two_pow_pos _
  omega

theorem ofInt_toNat {k : IntKind} {a : Nat} (h : a ≤ kmax k) : (BitVec.ofInt k.bits (Int.ofNat a)).toNat = a := by
  have := lt_pow_of_kmax h
  show (BitVec.ofInt k.bits ((a : Nat) : Int)).toNat = a
  rw [BitVec.ofInt_natCast, BitVec.toNat_ofNat, Nat.mod_eq_of_lt this]

include he in
theorem kBinInt_ok {o : Oper} {op : BinOp} {ty yt : TypeId} {x y : Operand} (ho : o.op = .binOp op ty x y yt) {gx gy : TT → AV} (hgx : opG x = some gx) (hgy : opG y = some gy) {k : K}
    (h : kBinInt e op gx gy = some k) : KOK P C o k := by
  unfold kBinInt at h
  split at h <;> cases h
  · exact arith_ok he ho hgx hgy fun k a b w => by simp [binOp, Op.intArith, iadd_eq]
  · exact arith_ok he ho hgx hgy fun k a b w => by simp [binOp, Op.intArith, isub_eq]
  · exact arith_ok he ho hgx hgy fun k a b w => by simp [binOp, Op.intArith, imul_eq]
  · refine divop_ok he ho hgx hgy fun k a b w h1 h2 => ?_
    have hb : ¬ ((b : Int) = 0) := by omega
    have hb' : ¬ (Int.ofNat b = 0) := hb
    simp only [binOp, ne_eq, not_true_eq_false, if_false, Op.intDiv, hb', Sem.run_pure]
    rfl
  · refine divop_ok he ho hgx hgy fun k a b w h1 h2 => ?_
    have hb' : ¬ (Int.ofNat b = 0) := by show ¬ ((b : Int) = 0); omega
    have h3 : a % b ≤ kmax k := Nat.le_trans (Nat.mod_le _ _) h1
    have h4 : k.wrap (Int.ofNat (Nat.mod a b)) = Int.ofNat (a % b) := by
      rw [← wrapI_eq]
      show Bool.rec (motive := fun _ => Int) _ _ (Nat.ble (a % b) (kmax k)) = _
      rw [Nat.ble_eq_true_of_le h3]
      rfl
    rw [h4]
    simp only [binOp, ne_eq, not_true_eq_false, if_false, Op.intDiv, hb', Sem.run_pure]
    rfl
  · refine natop_ok he ho hgx hgy fun k a b w h1 h2 => ?_
    simp only [binOp, ne_eq, not_true_eq_false, if_false, Op.intBits, Sem.run_pure, BitVec.toNat_and, ofInt_toNat h1, ofInt_toNat h2]
    rfl
  · refine natop_ok he ho hgx hgy fun k a b w h1 h2 => ?_
    simp only [binOp, ne_eq, not_true_eq_false, if_false, Op.intBits, Sem.run_pure, BitVec.toNat_or, ofInt_toNat h1, ofInt_toNat h2]
    rfl
  · refine natop_ok he ho hgx hgy fun k a b w h1 h2 => ?_
    simp only [binOp, ne_eq, not_true_eq_false, if_false, Op.intBits, Sem.run_pure, BitVec.toNat_and, BitVec.toNat_not, ofInt_toNat h1, ofInt_toNat h2, kmask_eq]
    rfl
  · -- shl
    intro t h k hk
    obtain ⟨ka, a, ha, hk⟩ := asInt_ok he hk
    obtain ⟨kb, m, hb, hk⟩ := asNat_ok he hk
    cases a with
    | negSucc q => exact absurd hk he
    | ofNat q =>
      have hk : forceI (wrapI ka (.ofNat (Nat.shiftLeft q (Bool.rec (motive := fun _ => Nat) (kbits ka) m (Nat.ble m (kbits ka)))))) (fun r => k (.int ka r)) = 0 := hk
      rw [forceI_eq, wrapI_eq] at hk
      refine ⟨_, hk, fun base Γ n w act hgl R ht => ⟨_, exec_int2 ho (ka := ka) (kb := kb) (m := Int.ofNat q) (n := Int.ofNat m) ?_ ?_ ?_, .int _ _⟩⟩
      · have := opG_ok hgx ht; rw [ha] at this; exact this.int_inv
      · have := opG_ok hgy ht; rw [hb] at this; exact this.int_inv
      · have hneg : ¬ (Int.ofNat m < 0) := by show ¬ ((m : Int) < 0); omega
        have hmin : (Bool.rec (motive := fun _ => Nat) (kbits ka) m (Nat.ble m (kbits ka)) : Nat) = min (Int.ofNat m).toNat ka.bits := by
          rw [kbits_eq]
          show _ = min m ka.bits
          cases hbl : Nat.ble m ka.bits with
          | true => have := ble_le hbl; show m = _; omega
          | false => have : ¬ m ≤ ka.bits := fun hc => by rw [Nat.ble_eq_true_of_le hc] at hbl; cases hbl
                     show ka.bits = _; omega
        rw [hmin]
        simp only [binOp, Op.shift, hneg, if_false, Sem.run_pure]
        congr 3
        show (q : Int) * 2 ^ _ = Int.ofNat (q <<< _)
        rw [Nat.shiftLeft_eq]
        simp
  · -- shr
    intro t h k hk
    obtain ⟨ka, a, ha, hk⟩ := asInt_ok he hk
    obtain ⟨kb, m, hb, hk⟩ := asNat_ok he hk
    cases a with
    | negSucc q => exact absurd hk he
    | ofNat q =>
      have hk : forceN (Nat.shiftRight q (Bool.rec (motive := fun _ => Nat) (kbits ka) m (Nat.ble m (kbits ka)))) (fun r => k (.int ka (.ofNat r))) = 0 := hk
      rw [forceN_eq] at hk
      refine ⟨_, hk, fun base Γ n w act hgl R ht => ⟨_, exec_int2 ho (ka := ka) (kb := kb) (m := Int.ofNat q) (n := Int.ofNat m) ?_ ?_ ?_, .int _ _⟩⟩
      · have := opG_ok hgx ht; rw [ha] at this; exact this.int_inv
      · have := opG_ok hgy ht; rw [hb] at this; exact this.int_inv
      · have hneg : ¬ (Int.ofNat m < 0) := by show ¬ ((m : Int) < 0); omega
        have hmin : (Bool.rec (motive := fun _ => Nat) (kbits ka) m (Nat.ble m (kbits ka)) : Nat) = min (Int.ofNat m).toNat ka.bits := by
          rw [kbits_eq]
          show _ = min m ka.bits
          cases hbl : Nat.ble m ka.bits with
          | true => have := ble_le hbl; show m = _; omega
          | false => have : ¬ m ≤ ka.bits := fun hc => by rw [Nat.ble_eq_true_of_le hc] at hbl; cases hbl
                     show ka.bits = _; omega
        rw [hmin]
        simp only [binOp, Op.shift, hneg, if_false, Sem.run_pure]
        congr 2
        show (q : Int).fdiv (2 ^ _) = Int.ofNat (q >>> _)
        rw [Nat.shiftRight_eq_div_pow, Int.fdiv_eq_ediv_of_nonneg _ (by exact_mod_cast Nat.zero_le _)]
        simp
  · exact cmp_ok he ho hgx hgy fun k a b w => by simp [binOp, Op.intCmp, ieq_eq]; rfl
  · exact cmp_ok he ho hgx hgy fun k a b w => by simp [binOp, Op.intCmp, ieq_eq]; rfl
  · exact cmp_ok he ho hgx hgy fun k a b w => by simp [binOp, Op.intCmp, ilt_eq]
  · exact cmp_ok he ho hgx hgy fun k a b w => by
      have : decide (a ≤ b) = !decide (b < a) := by rw [Bool.eq_iff_iff]; simp
      simp [binOp, Op.intCmp, ilt_eq, this]
  · exact cmp_ok he ho hgx hgy fun k a b w => by simp [binOp, Op.intCmp, ilt_eq]
  · exact cmp_ok he ho hgx hgy fun k a b w => by
      have : decide (b ≤ a) = !decide (a < b) := by rw [Bool.eq_iff_iff]; simp
      simp [binOp, Op.intCmp, ilt_eq, this]
end
end Go.Ae
