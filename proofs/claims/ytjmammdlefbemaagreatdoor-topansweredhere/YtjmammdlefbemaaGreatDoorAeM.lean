/- The abstract evaluator: maps, clear, calls. -/
import Derived.Test.YtjmammdlefbemaaGreatDoorAeL
import GoSem.Extern.Table
set_option linter.unusedVariables false
set_option linter.unusedSectionVars false
namespace Go.Ae

section defs
variable (C : Ctx) (e : Nat)

/-- are two keys the same? texts, or numbers of one kind -/
noncomputable def keyEq (str : Bool) (a b : AV) (k : Bool → Nat) : Nat :=
  Bool.rec (motive := fun _ => Nat) (asInt e a fun ka x => asInt e b fun kb y => guardN e (Nat.beq (kn ka) (kn kb)) (forceB (ieq x y) k)) (asStr e a fun x => asStr e b fun y => forceB (strEq x y) k) str
/-- the place and the value of a key -/
noncomputable def findE (str : Bool) (key : AV) (kn : Nat) (kf : Nat → AV → Nat) (es : List (AV × AV)) : Nat → Nat :=
  List.rec (motive := fun _ => Nat → Nat) (fun _ => kn) (fun p _ ih i => keyEq e str key p.1 fun b => Bool.rec (motive := fun _ => Nat) (ih (Nat.succ i)) (kf i p.2) b) es
noncomputable def setE (v : AV × AV) (es : List (AV × AV)) : Nat → List (AV × AV) :=
  List.rec (motive := fun _ => Nat → List (AV × AV)) (fun _ => []) (fun p t ih i => Nat.rec (motive := fun _ => List (AV × AV)) (v :: t) (fun j _ => p :: ih j) i) es
noncomputable def dropE (es : List (AV × AV)) : Nat → List (AV × AV) :=
  List.rec (motive := fun _ => Nat → List (AV × AV)) (fun _ => []) (fun p t ih i => Nat.rec (motive := fun _ => List (AV × AV)) t (fun j _ => p :: ih j) i) es
/-- is it a map with keys that are texts (true), numbers (false)? -/
def mapKey (ty : Nat) : Option (Bool × Nat) :=
  match C.und ty with
  | some (.map key elem) => match C.und key with
    | some .string => some (true, elem)
    | some (.int _) => some (false, elem)
    | _ => none
  | _ => none
noncomputable def kLookup (ty : Nat) (x i : Operand) (ok : Bool) : Option K := do
  let gx ← opG x
  let gi ← opG i
  let (str, elem) ← mapKey C ty
  let inf ← C.ti elem
  let z ← inf.zero
  let zv ← toAV z
  return .val fun t h k => asMap e (gx t) fun b => blkMap e (hget h b) fun es =>
    findE e str (gi t) (k (match ok with | true => .tuple [zv, .bool false] | false => zv)) (fun _ v => k (match ok with | true => .tuple [v, .bool true] | false => v)) es 0
noncomputable def kUpdate (ty : Nat) (x i v : Operand) : Option K := do
  let gx ← opG x
  let gi ← opG i
  let gv ← opG v
  let (str, _) ← mapKey C ty
  return .wr fun t h n k => asMap e (gx t) fun b => blkMap e (hget h b) fun es =>
    findE e str (gi t) (keyEq e str (gi t) (gi t) fun _ => k .undef (hset h b (.map (appL es [(gi t, gv t)]))) n) (fun j _ => k .undef (hset h b (.map (setE (gi t, gv t) es j))) n) es 0
noncomputable def kDelete (ty : Nat) (x i : Operand) : Option K := do
  let gx ← opG x
  let gi ← opG i
  let (str, _) ← mapKey C ty
  return .wr fun t h n k => asMap e (gx t) fun b => blkMap e (hget h b) fun es =>
    findE e str (gi t) (keyEq e str (gi t) (gi t) fun _ => k .undef h n) (fun j _ => k .undef (hset h b (.map (dropE es j))) n) es 0
noncomputable def kClear (ty : Nat) (x : Operand) : Option K := do
  let gx ← opG x
  let d ← C.und ty
  match d with
  | .slice elem =>
    let inf ← C.ti elem
    let z ← inf.zero
    let zl ← toScs z.cells.toList
    if 0 < zl.length then
      return .wr fun t h n k => asSlice e (gx t) (k .undef h n) (fun _ => k .undef h n) fun b off len _ _ => ite2 (Nat.beq len 0) (k .undef h n)
        (blkCells e (hget h b) fun cs m z cl => forceN (Nat.mul len zl.length) fun q => guardN e (Nat.ble (Nat.add off q) m) (k .undef (hset h b (.cells (copyT q (fillT ((List.replicate len zl).flatten) 0 .nil) 0 cs off) m z cl)) n))
    else none
  | _ => none

def Ctx.has (f : Nat) : Bool := match C.fn f with | some x => x.body.isSome | none => false
noncomputable def evalGs (gs : List (TT → AV)) (t : TT) : List AV := List.rec (motive := fun _ => List AV) [] (fun g _ ih => g t :: ih) gs
noncomputable def capsL (l : List (Nat × Nat)) : List AV := List.rec (motive := fun _ => List AV) [] (fun p _ ih => .ptr p.1 p.2 :: ih) l
/-- a call of a function of the program, or of a function value -/
noncomputable def kCallee (f : Operand) (args : List Operand) : Option (TT → (Nat → List AV → Nat) → Nat) := do
  let gs ← opGs args
  match f with
  | .func f => if C.has f then some fun t k => k f (evalGs gs t) else none
  | f => (opG f).map fun g => fun t k => asFn e (g t) fun f caps => guardN e (C.has f) (k f (appL (evalGs gs t) (capsL caps)))
noncomputable def kIndexByte (args : List Operand) : Option K :=
  match args with
  | [x, y] => do
    let gx ← opG x
    let gy ← opG y
    return .val fun t _ k => asStr e (gx t) fun bs => asNat e (gy t) fun c => guardN e (Nat.blt c 256)
      (List.rec (motive := fun _ => Nat → Nat) (fun _ => k (.int .i64 (-1))) (fun b _ ih i => ite2 (Nat.beq (Nat.mod b 256) c) (k (.int .i64 (.ofNat i))) (ih (Nat.succ i))) bs 0)
  | _ => none
end defs

section
variable {P : Program} {C : Ctx} (H : CtxOK P C) {e : Nat} (he : e ≠ 0)

theorem setE_eq (v : AV × AV) : ∀ (es : List (AV × AV)) (i : Nat), setE v es i = es.set i v
  | [], i => rfl
  | p :: es, 0 => rfl
  | p :: es, i + 1 => by show p :: setE v es i = _; rw [setE_eq v es i]; rfl
theorem dropE_eq : ∀ (es : List (AV × AV)) (i : Nat), dropE es i = es.eraseIdx i
  | [], i => rfl
  | p :: es, 0 => rfl
  | p :: es, i + 1 => by show p :: dropE es i = _; rw [dropE_eq es i]; rfl

/-- the kind of a key -/
def keyDesc (str : Bool) (d : TypeDesc) : Prop := match str with | true => d = .string | false => ∃ k, d = .int k

theorem mapKey_ok {ty : Nat} {str : Bool} {elem : Nat} (h : mapKey C ty = some (str, elem)) : ∃ key d, C.und ty = some (.map key elem) ∧ C.und key = some d ∧ keyDesc str d := by
  unfold mapKey at h
  split at h
  · rename_i key el hu
    split at h
    · rename_i hk; cases h; exact ⟨key, _, hu, hk, rfl⟩
    · rename_i hk; cases h; exact ⟨key, _, hu, hk, _, rfl⟩
    · cases h
  · cases h

include he in
theorem keyEq_ok {str : Bool} {a b : AV} {k : Bool → Nat} (h : keyEq e str a b k = 0) : ∃ r, k r = 0 ∧ ∀ Γ A B d, VR Γ a A → VR Γ b B → keyDesc str d → Instr.sameNow d A B = some r ∧ (r = true → Instr.sameBits 10000 B A = true) := by
  cases str with
  | true =>
    obtain ⟨x, hx, h⟩ := asStr_ok he h
    obtain ⟨y, hy, h⟩ := asStr_ok he h
    rw [forceB_eq] at h
    refine ⟨_, h, fun Γ A B d hA hB hd => ?_⟩
    rw [hx] at hA
    rw [hy] at hB
    have hd : d = .string := hd
    subst hd
    rw [hA.str_inv, hB.str_inv]
    have e1 : (bytesOf x == bytesOf y) = strEq x y := by rw [beq_toListBytes, strEq_toL]
    refine ⟨by simp [Instr.sameNow, e1], fun hr => ?_⟩
    rw [← e1, beq_toListBytes] at hr
    have hl := eq_of_beq hr
    simp only [Instr.sameBits]
    rw [beq_toListBytes, hl]
    exact BEq.rfl
  | false =>
    obtain ⟨ka, x, hx, h⟩ := asInt_ok he h
    obtain ⟨kb, y, hy, h⟩ := asInt_ok he h
    obtain ⟨hk, h⟩ := guardN_ok he h
    have hk := kn_inj hk
    rw [forceB_eq, ieq_eq] at h
    refine ⟨_, h, fun Γ A B d hA hB hd => ?_⟩
    rw [hx] at hA
    rw [hy] at hB
    obtain ⟨kd, rfl⟩ : ∃ k, d = .int k := hd
    rw [hA.int_inv, hB.int_inv]
    refine ⟨?_, fun hr => ?_⟩
    · simp only [Instr.sameNow, hk, if_true]
      congr 1
    · have := of_decide_eq_true hr
      simp [Instr.sameBits, hk, this]

/-- entries of a map as an abstract list says -/
def ESOK (Γ : Gam) (es : List (AV × AV)) (ES : List MapEntry) : Prop := ES.length = es.length ∧ ∀ i (hi : i < es.length) (hi' : i < ES.length), VR Γ es[i].1 ES[i].key ∧ VR Γ es[i].2 ES[i].val

include he in
theorem findE_ok {str : Bool} {key : AV} {kn : Nat} {kf : Nat → AV → Nat} : ∀ {es : List (AV × AV)} {i : Nat}, findE e str key kn kf es i = 0 →
    (kn = 0 ∧ ∀ Γ K d ES, VR Γ key K → keyDesc str d → ESOK Γ es ES → Instr.findNow d K ES i = some none) ∨
    (∃ j v, kf (i + j) v = 0 ∧ ∃ hj : j < es.length, es[j].2 = v ∧ ∀ Γ K d ES, VR Γ key K → keyDesc str d → (hE : ESOK Γ es ES) →
      Instr.findNow d K ES i = some (some (i + j, (ES[j]'(by rw [hE.1]; exact hj)).val)) ∧ Instr.sameBits 10000 (ES[j]'(by rw [hE.1]; exact hj)).key K = true)
  | [], i, h => .inl ⟨h, fun Γ K d ES hK hd hE => by
      have : ES = [] := List.eq_nil_of_length_eq_zero hE.1
      subst this; rfl⟩
  | p :: es, i, h => by
    obtain ⟨r, hr, hkey⟩ := keyEq_ok he h
    cases r with
    | true =>
      refine .inr ⟨0, p.2, hr, by simp, rfl, fun Γ K d ES hK hd hE => ?_⟩
      obtain ⟨E, ES, rfl⟩ : ∃ E ES', ES = E :: ES' := by
        cases ES with
        | nil => have := hE.1; simp at this
        | cons E ES' => exact ⟨E, ES', rfl⟩
      have h0 := hE.2 0 (by simp) (by simp)
      obtain ⟨h1, h2⟩ := hkey Γ K E.key d hK h0.1 hd
      exact ⟨by simp [Instr.findNow, h1], h2 rfl⟩
    | false =>
      have tail : ∀ {Γ ES}, ESOK Γ (p :: es) ES → ∃ E ES', ES = E :: ES' ∧ ESOK Γ es ES' ∧ VR Γ p.1 E.key := by
        intro Γ ES hE
        cases ES with
        | nil => have := hE.1; simp at this
        | cons E ES' =>
          refine ⟨E, ES', rfl, ⟨by have := hE.1; simpa using this, fun j hj hj' => ?_⟩, (hE.2 0 (by simp) (by simp)).1⟩
          have := hE.2 (j + 1) (by simp; omega) (by simp; omega)
          simpa using this
      rcases findE_ok (es := es) (i := i + 1) hr with ⟨hk, hall⟩ | ⟨j, v, hk, hj, hv, hall⟩
      · refine .inl ⟨hk, fun Γ K d ES hK hd hE => ?_⟩
        obtain ⟨E, ES', rfl, hE', hp⟩ := tail hE
        obtain ⟨h1, _⟩ := hkey Γ K E.key d hK hp hd
        simp only [Instr.findNow, h1]
        exact hall Γ K d ES' hK hd hE'
      · refine .inr ⟨j + 1, v, by rw [← hk]; congr 1; omega, by simp; omega, by simpa using hv, fun Γ K d ES hK hd hE => ?_⟩
        obtain ⟨E, ES', rfl, hE', hp⟩ := tail hE
        obtain ⟨h1, _⟩ := hkey Γ K E.key d hK hp hd
        simp only [Instr.findNow, h1]
        obtain ⟨h2, h3⟩ := hall Γ K d ES' hK hd hE'
        exact ⟨by rw [h2]; simp; omega, by simpa using h3⟩

theorem run_checkKey {w : World} {d : TypeDesc} {key : Nat} {b str : Bool} (hu : P.underlying key = some d) (hd : keyDesc str d) (n : Nat) (K : Value) : (Instr.checkKey b (n + 1) key K).run P w = .ok () w := by
  cases str with
  | true => have hd : d = .string := hd; subst hd; simp [Instr.checkKey, run_underlying hu]
  | false => obtain ⟨kd, rfl⟩ : ∃ k, d = .int k := hd; simp [Instr.checkKey, run_underlying hu]

theorem run_findKey {w : World} {d : TypeDesc} {key : Nat} {K : Value} {ES : List MapEntry} {r : Option (Nat × Value)} (hu : P.underlying key = some d) (h : Instr.findNow d K ES 0 = some r) : (Instr.findKey key K ES).run P w = .ok r w := by
  simp [Instr.findKey, run_underlying hu, h]

/-- the object of a map's block -/
theorem Rel.mapObj {base w : World} {Γ : Gam} {h : HH} {n : Nat} (R : Rel base Γ h n w) {b : Nat} {g : G} (hg : Γ b = some g) {es : List (AV × AV)} (hb : hget h b = .map es) :
    ∃ ES clock, w.heap[g.c]? = some (.map ES clock) ∧ ESOK Γ es ES.toList := by
  obtain ⟨o, h1, h2⟩ := R.blk b g hg
  rw [hb] at h2
  cases h2 with
  | map _ ES clock hl hall hd => exact ⟨ES, clock, h1, by simpa using hl, fun i hi hi' => by simpa using hall i hi (by simpa using hi')⟩

theorem Rel.setMap {base w : World} {Γ : Gam} {h : HH} {n : Nat} (R : Rel base Γ h n w) {b : Nat} {g : G} (hg : Γ b = some g) {es es' : List (AV × AV)} (hb : hget h b = .map es) {ES' : Array MapEntry} (clock : Nat) (hE : ESOK Γ es' ES'.toList) :
    Rel base Γ (hset h b (.map es')) n { w with heap := w.heap.setIfInBounds g.c (.map ES' clock) } := by
  obtain ⟨ob, hob, hor⟩ := R.blk b g hg
  have hheap : ∀ q, (w.heap.setIfInBounds g.c (.map ES' clock))[q]? = if g.c = q then some (.map ES' clock) else w.heap[q]? := by
    intro q
    by_cases hq : g.c = q
    · subst hq
      obtain ⟨hlt, _⟩ := Array.getElem?_eq_some_iff.1 hob
      simp [hlt]
    · rw [if_neg hq, Array.getElem?_setIfInBounds_ne hq]
  have hlive : ∀ q, live (hset h b (.map es')) q → live h q := by
    intro q hq
    unfold live at *
    rw [hget_hset] at hq
    by_cases hbq : b = q
    · subst hbq; rw [hb]; simp
    · rwa [if_neg hbq] at hq
  have hgd : g.d = 0 := by
    rw [hb] at hor
    cases hor with
    | map _ _ _ _ _ hd => exact hd
  refine ⟨R.os, R.tape, R.output, by simpa using R.size, ?_, by simpa using R.rng, R.fresh, ?_, fun p q gp gq hp hq => R.inj p q gp gq (hlive p hp) (hlive q hq)⟩
  · intro q hq
    show (w.heap.setIfInBounds g.c (.map ES' clock))[q]? = _
    rw [hheap, if_neg (by have := (R.rng b g hg).1; omega)]
    exact R.old q hq
  · intro p gp hp
    obtain ⟨o'', hp1, hp2⟩ := R.blk p gp hp
    show ∃ o, (w.heap.setIfInBounds g.c (.map ES' clock))[gp.c]? = some o ∧ _
    rw [hheap, hget_hset]
    by_cases hbp : b = p
    · subst hbp
      rw [hg] at hp; cases hp
      rw [if_pos rfl, if_pos rfl]
      exact ⟨_, rfl, .map _ _ _ (by simpa using hE.1) (fun i hi hi' => hE.2 i hi (by simpa using hi')) hgd⟩
    · rw [if_neg hbp]
      by_cases hcc : g.c = gp.c
      · by_cases hlp : live h p
        · exact absurd (R.inj b p g gp (by unfold live; rw [hb]; simp) hlp hg hp hcc) hbp
        · have hld : hget h p = .dead := Classical.not_not.mp hlp
          rw [if_pos hcc]
          exact ⟨_, rfl, by rw [hld]; exact .dead _⟩
      · rw [if_neg hcc]
        exact ⟨o'', hp1, hp2⟩

include H he in
theorem kLookup_ok {o : Oper} {ty : Nat} {x i : Operand} {ok : Bool} (ho : o.op = .lookup ty x i ok) {k : K} (h : kLookup C e ty x i ok = some k) : KOK P C o k := by
  simp only [kLookup, Option.bind_eq_bind, Option.bind_eq_some_iff] at h
  obtain ⟨gx, hgx, gi, hgi, ⟨str, elem⟩, hmk, inf, hinf, z, hz, zv, hzv, h⟩ := h
  cases h
  obtain ⟨key, d, hd, hkd, hkey⟩ := mapKey_ok hmk
  have hu := H.und hd
  have huk := H.und hkd
  intro t h k hk
  obtain ⟨b, hv, hk⟩ := asMap_ok he hk
  obtain ⟨es, hb, hk⟩ := blkMap_ok he hk
  have fin : ∀ {w : World} {a : Act} {ES : Array MapEntry} {clock : Nat} {g : G} {r : Option (Nat × Value)}, a.eval x = .map (some g.c) → w.heap[g.c]? = some (.map ES clock) → Instr.findNow d (a.eval i) ES.toList 0 = some r →
      (execOp a.eval o).run P w = .ok (.value (match r with
        | some (_, v) => if ok then .tuple #[v, .bool true] else v
        | none => if ok then .tuple #[z, .bool false] else z)) w := by
    intro w a ES clock g r hx hw hf
    have h1 := run_findKey (P := P) (w := w) huk hf
    have h2 : (Instr.checkKey ES.isEmpty (9999 + 1) key (a.eval i)).run P w = .ok () w := run_checkKey huk hkey _ _
    have h2 : (Instr.checkKey ES.isEmpty 10000 key (a.eval i)).run P w = .ok () w := h2
    have h3 : (zeroValue elem).run P w = .ok z w := by simp [zeroValue, H.info hinf, hz]
    cases r with
    | none => cases ok <;> simp [execOp, ho, Instr.lookup, run_underlying hu, hx, getObj, Sem.run, hw, h2, h1, h3]
    | some p => obtain ⟨j, v⟩ := p; cases ok <;> simp [execOp, ho, Instr.lookup, run_underlying hu, hx, getObj, Sem.run, hw, h2, h1]
  rcases findE_ok he hk with ⟨hk, hall⟩ | ⟨j, v, hk, hj, hv', hall⟩
  · refine ⟨_, hk, fun base Γ n w a hgl R ht => ?_⟩
    have hrx := opG_ok hgx ht; rw [hv] at hrx
    obtain ⟨g, hg, hX⟩ := hrx.map_inv
    obtain ⟨ES, clock, hw, hE⟩ := R.mapObj hg hb
    refine ⟨_, fin hX hw (hall Γ _ d ES.toList (opG_ok hgi ht) hkey hE), ?_⟩
    cases ok with
    | false => exact toAV_ok hzv Γ
    | true =>
      refine .tuple _ _ rfl (fun q hq hq' => ?_)
      match q, hq with
      | 0, _ => exact toAV_ok hzv Γ
      | 1, _ => exact .bool false
  · refine ⟨_, hk, fun base Γ n w a hgl R ht => ?_⟩
    have hrx := opG_ok hgx ht; rw [hv] at hrx
    obtain ⟨g, hg, hX⟩ := hrx.map_inv
    obtain ⟨ES, clock, hw, hE⟩ := R.mapObj hg hb
    obtain ⟨hf, _⟩ := hall Γ _ d ES.toList (opG_ok hgi ht) hkey hE
    refine ⟨_, fin hX hw hf, ?_⟩
    have hvr := (hE.2 j hj (by rw [hE.1]; exact hj)).2
    rw [hv'] at hvr
    cases ok with
    | false => exact hvr
    | true =>
      refine .tuple _ _ rfl (fun q hq hq' => ?_)
      match q, hq with
      | 0, _ => exact hvr
      | 1, _ => exact .bool true

theorem ESOK.mono {Γ Δ : Gam} (le : Γ.le Δ) {es : List (AV × AV)} {ES : List MapEntry} (h : ESOK Γ es ES) : ESOK Δ es ES := ⟨h.1, fun i hi hi' => ⟨(h.2 i hi hi').1.mono le, (h.2 i hi hi').2.mono le⟩⟩

include H he in
theorem kUpdate_ok {o : Oper} {ty : Nat} {x i v : Operand} (ho : (o.op = .mapUpdate ty x i v) ∨ (o.op = .insert ty x i v)) {k : K} (h : kUpdate C e ty x i v = some k) : KOK P C o k := by
  simp only [kUpdate, Option.bind_eq_bind, Option.bind_eq_some_iff] at h
  obtain ⟨gx, hgx, gi, hgi, gv, hgv, ⟨str, elem⟩, hmk, h⟩ := h
  cases h
  obtain ⟨key, d, hd, hkd, hkey⟩ := mapKey_ok hmk
  have hu := H.und hd
  have huk := H.und hkd
  have hexec : ∀ (a : Act) (w : World), (execOp a.eval o).run P w = ((Instr.mapUpdate ty (a.eval x) (a.eval i) (a.eval v)).run P w).andThen fun _ w' => .ok .skip w' := by
    intro a w
    rcases ho with ho | ho <;> simp [execOp, ho]
  intro t h n k hk
  obtain ⟨b, hv, hk⟩ := asMap_ok he hk
  obtain ⟨es, hb, hk⟩ := blkMap_ok he hk
  have hck : ∀ (K : Value) (w : World), (Instr.checkKey false 10000 key K).run P w = .ok () w := fun K w => run_checkKey huk hkey 9999 K
  rcases findE_ok he hk with ⟨hk, hall⟩ | ⟨j, v', hk, hj, hv', hall⟩
  · obtain ⟨r, hk, hr⟩ := keyEq_ok he hk
    refine ⟨_, _, _, hk, Nat.le_refl _, fun base Γ w a hgl R ht => ?_⟩
    have hrx := opG_ok hgx ht; rw [hv] at hrx
    obtain ⟨g, hg, hX⟩ := hrx.map_inv
    obtain ⟨ES, clock, hw, hE⟩ := R.mapObj hg hb
    have hf := hall Γ _ d ES.toList (opG_ok hgi ht) hkey hE
    have h1 := run_findKey (P := P) (w := w) huk hf
    refine ⟨Γ, { w with heap := w.heap.setIfInBounds g.c (.map (ES.push { key := a.eval i, val := a.eval v, born := clock }) (clock + 1)) }, .skip, undef, Gam.ext_refl _ _, R.setMap hg hb _ ?_, ?_, .undef, .inr ⟨rfl, rfl⟩⟩
    · rw [appL_eq]
      refine ⟨by simp [hE.1], fun q hq hq' => ?_⟩
      by_cases hql : q < es.length
      · have hqE : q < ES.toList.length := by rw [hE.1]; exact hql
        have := hE.2 q hql hqE
        have e1 : (ES.push { key := a.eval i, val := a.eval v, born := clock }).toList[q] = ES.toList[q] := by
          simp only [Array.toList_push]; rw [List.getElem_append_left hqE]
        rw [e1, List.getElem_append_left hql]
        exact this
      · have hql' : q = es.length := by simp at hq; omega
        subst hql'
        have e1 : (ES.push { key := a.eval i, val := a.eval v, born := clock }).toList[es.length] = { key := a.eval i, val := a.eval v, born := clock } := by
          simp only [Array.toList_push]; rw [List.getElem_append_right (by rw [hE.1]; exact Nat.le_refl _)]; simp
        rw [e1, List.getElem_append_right (Nat.le_refl _)]
        simpa using ⟨opG_ok hgi ht, opG_ok hgv ht⟩
    · rw [hexec]
      simp [Instr.mapUpdate, run_underlying hu, hX, getObj, Sem.run, hw, hck, h1, setObj]
  · refine ⟨_, _, _, hk, Nat.le_refl _, fun base Γ w a hgl R ht => ?_⟩
    have hrx := opG_ok hgx ht; rw [hv] at hrx
    obtain ⟨g, hg, hX⟩ := hrx.map_inv
    obtain ⟨ES, clock, hw, hE⟩ := R.mapObj hg hb
    obtain ⟨hf, hsame⟩ := hall Γ _ d ES.toList (opG_ok hgi ht) hkey hE
    rw [Nat.zero_add] at hf
    have h1 := run_findKey (P := P) (w := w) huk hf
    have hjE : j < ES.size := by have := hE.1; simp at this; omega
    have hkeep : (Instr.keyThatStays (((ES[j]?).map (·.key)).getD (a.eval i)) (a.eval i)).run P w = .ok (a.eval i) w := by
      have : ((ES[j]?).map (·.key)).getD (a.eval i) = ES.toList[j].key := by simp [hjE]
      rw [this]
      unfold Instr.keyThatStays
      rw [if_pos hsame]
      rfl
    refine ⟨Γ, { w with heap := w.heap.setIfInBounds g.c (.map (ES.modify j fun E => { E with key := a.eval i, val := a.eval v }) clock) }, .skip, undef, Gam.ext_refl _ _, R.setMap hg hb _ ?_, ?_, .undef, .inr ⟨rfl, rfl⟩⟩
    · rw [setE_eq, Nat.zero_add]
      refine ⟨by simpa using hE.1, fun q hq hq' => ?_⟩
      simp only [List.length_set] at hq
      have hqE : q < ES.size := by have := hE.1; simp at this; omega
      have e1 : (ES.modify j fun E => { E with key := a.eval i, val := a.eval v }).toList[q] = if j = q then { ES[q] with key := a.eval i, val := a.eval v } else ES[q] := by
        rw [Array.getElem_toList, Array.getElem_modify]
      rw [e1, List.getElem_set]
      by_cases hjq : j = q
      · rw [if_pos hjq, if_pos hjq]
        exact ⟨opG_ok hgi ht, opG_ok hgv ht⟩
      · rw [if_neg hjq, if_neg hjq]
        exact hE.2 q hq (by simpa using hqE)
    · rw [hexec]
      simp only [Instr.mapUpdate, Sem.run_bind, run_underlying hu, hX, getObj, Sem.run, hw, hck, h1, Result.andThen_ok, hkeep, setObj]

include H he in
theorem kDelete_ok {o : Oper} {ts : Array TypeId} {ty : Nat} {x i : Operand} (ho : o.op = .call { callee := .builtin .delete, args := #[x, i], argTypes := ts }) (ht0 : ts[0]? = some ty) {k : K} (h : kDelete C e ty x i = some k) : KOK P C o k := by
  simp only [kDelete, Option.bind_eq_bind, Option.bind_eq_some_iff] at h
  obtain ⟨gx, hgx, gi, hgi, ⟨str, elem⟩, hmk, h⟩ := h
  cases h
  obtain ⟨key, d, hd, hkd, hkey⟩ := mapKey_ok hmk
  have hu := H.und hd
  have huk := H.und hkd
  have hexec : ∀ (a : Act) (w : World), (execOp a.eval o).run P w = ((Builtin.delete_ ts o.type #[a.eval x, a.eval i]).run P w).andThen fun v w' => .ok (.value v) w' := by
    intro a w
    simp [execOp, ho, resolve, invoke, builtin]
  intro t h n k hk
  obtain ⟨b, hv, hk⟩ := asMap_ok he hk
  obtain ⟨es, hb, hk⟩ := blkMap_ok he hk
  have hck : ∀ (b : Bool) (K : Value) (w : World), (Instr.checkKey b 10000 key K).run P w = .ok () w := fun b K w => run_checkKey huk hkey 9999 K
  rcases findE_ok he hk with ⟨hk, hall⟩ | ⟨j, v', hk, hj, hv', hall⟩
  · obtain ⟨r, hk, hr⟩ := keyEq_ok he hk
    refine ⟨_, _, _, hk, Nat.le_refl _, fun base Γ w a hgl R ht => ?_⟩
    have hrx := opG_ok hgx ht; rw [hv] at hrx
    obtain ⟨g, hg, hX⟩ := hrx.map_inv
    obtain ⟨ES, clock, hw, hE⟩ := R.mapObj hg hb
    have hf := hall Γ _ d ES.toList (opG_ok hgi ht) hkey hE
    have h1 := run_findKey (P := P) (w := w) huk hf
    have hsame : w.heap.setIfInBounds g.c (.map ES clock) = w.heap := by
      obtain ⟨hlt, hge⟩ := Array.getElem?_eq_some_iff.1 hw
      apply Array.ext_getElem?
      intro q
      by_cases hq : g.c = q
      · subst hq; simp [hlt, hge]
      · rw [Array.getElem?_setIfInBounds_ne hq]
    refine ⟨Γ, w, .value undef, undef, Gam.ext_refl _ _, R, ?_, .undef, .inl rfl⟩
    rw [hexec]
    simp [Builtin.delete_, ht0, run_underlying hu, hX, getObj, Sem.run, hw, hck, h1, setObj, hsame]
    rfl
  · refine ⟨_, _, _, hk, Nat.le_refl _, fun base Γ w a hgl R ht => ?_⟩
    have hrx := opG_ok hgx ht; rw [hv] at hrx
    obtain ⟨g, hg, hX⟩ := hrx.map_inv
    obtain ⟨ES, clock, hw, hE⟩ := R.mapObj hg hb
    obtain ⟨hf, hsame⟩ := hall Γ _ d ES.toList (opG_ok hgi ht) hkey hE
    rw [Nat.zero_add] at hf
    have h1 := run_findKey (P := P) (w := w) huk hf
    have hjE : j < ES.size := by have := hE.1; simp at this; omega
    refine ⟨Γ, { w with heap := w.heap.setIfInBounds g.c (.map (ES.eraseIdxIfInBounds j) clock) }, .value undef, undef, Gam.ext_refl _ _, R.setMap hg hb _ ?_, ?_, .undef, .inl rfl⟩
    · rw [dropE_eq, Nat.zero_add]
      have e0 : (ES.eraseIdxIfInBounds j).toList = ES.toList.eraseIdx j := by
        rw [Array.eraseIdxIfInBounds, dif_pos hjE]; simp
      rw [e0]
      refine ⟨by rw [List.length_eraseIdx, List.length_eraseIdx, hE.1], fun q hq hq' => ?_⟩
      rw [List.getElem_eraseIdx, List.getElem_eraseIdx]
      rw [List.length_eraseIdx] at hq
      split
      · exact hE.2 q (by omega) (by rw [hE.1]; omega)
      · exact hE.2 (q + 1) (by rw [if_pos hj] at hq; omega) (by rw [hE.1]; rw [if_pos hj] at hq; omega)
    · rw [hexec]
      simp [Builtin.delete_, ht0, run_underlying hu, hX, getObj, Sem.run, hw, hck, h1, setObj]
      rfl
end
end Go.Ae
