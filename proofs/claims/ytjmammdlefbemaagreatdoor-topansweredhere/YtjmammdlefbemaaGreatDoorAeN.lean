/- The abstract evaluator: clear, calls, one external function. -/
import Derived.Test.YtjmammdlefbemaaGreatDoorAeM
import Derived.Laws.Externs
set_option linter.unusedVariables false
set_option linter.unusedSectionVars false
namespace Go.Ae

section
variable {P : Program} {C : Ctx} (H : CtxOK P C) {e : Nat} (he : e ≠ 0)

include H he in
theorem kClear_ok {o : Oper} {ts : Array TypeId} {ty : Nat} {x : Operand} (ho : o.op = .call { callee := .builtin .clear, args := #[x], argTypes := ts }) (ht0 : ts[0]? = some ty) {k : K} (h : kClear C e ty x = some k) : KOK P C o k := by
  simp only [kClear, Option.bind_eq_bind, Option.bind_eq_some_iff] at h
  obtain ⟨gx, hgx, d, hd, h⟩ := h
  have hu := H.und hd
  have hexec : ∀ (a : Act) (w : World), (execOp a.eval o).run P w = ((Builtin.clear_ ts o.type #[a.eval x]).run P w).andThen fun v w' => .ok (.value v) w' := by
    intro a w
    simp [execOp, ho, resolve, invoke, builtin]
  split at h
  · rename_i elem
    simp only [Option.bind_eq_some_iff] at h
    obtain ⟨inf, hinf, z, hz, zl, hzl, h⟩ := h
    split at h
    · rename_i hpos
      cases h
      intro t h n k hk
      have triv : ∀ (K : Value), (K = .slice none 0 0 ∨ ∃ ad c, K = .slice ad 0 c) → ∀ w, (Builtin.clear_ ts o.type #[K]).run P w = .ok (.tuple #[]) w := by
        intro K hK w
        rcases hK with rfl | ⟨ad, c, rfl⟩
        · simp [Builtin.clear_, ht0, run_underlying hu]
        · cases ad <;> simp [Builtin.clear_, ht0, run_underlying hu]
      rcases asSlice_ok he hk with ⟨hv, hk⟩ | ⟨hv, hk⟩ | ⟨hv, hk⟩ | ⟨b, off, len, op, c, hv, hk⟩
      · refine ⟨_, _, _, hk, Nat.le_refl _, fun base Γ w a hgl R ht => ?_⟩
        have hr := opG_ok hgx ht; rw [hv] at hr
        exact ⟨Γ, w, .value (.tuple #[]), .tuple #[], Gam.ext_refl _ _, R, by rw [hexec, triv _ (.inl hr.nils_inv)]; rfl, .undef, .inl rfl⟩
      · refine ⟨_, _, _, hk, Nat.le_refl _, fun base Γ w a hgl R ht => ?_⟩
        have hr := opG_ok hgx ht; rw [hv] at hr
        obtain ⟨ad, c, hX⟩ := hr.voidO_inv
        exact ⟨Γ, w, .value (.tuple #[]), .tuple #[], Gam.ext_refl _ _, R, by rw [hexec, triv _ (.inr ⟨_, _, hX⟩)]; rfl, .undef, .inl rfl⟩
      · refine ⟨_, _, _, hk, Nat.le_refl _, fun base Γ w a hgl R ht => ?_⟩
        have hr := opG_ok hgx ht; rw [hv] at hr
        obtain ⟨ad, hX⟩ := hr.voidE_inv
        exact ⟨Γ, w, .value (.tuple #[]), .tuple #[], Gam.ext_refl _ _, R, by rw [hexec, triv _ (.inr ⟨_, _, hX⟩)]; rfl, .undef, .inl rfl⟩
      · rw [ite2_eq] at hk
        by_cases hl : Nat.beq len 0 = true
        · rw [if_pos hl] at hk
          have hl : len = 0 := Nat.eq_of_beq_eq_true hl
          refine ⟨_, _, _, hk, Nat.le_refl _, fun base Γ w a hgl R ht => ?_⟩
          have hr := opG_ok hgx ht; rw [hv] at hr
          obtain ⟨g, hg, hX⟩ := hr.slice_inv
          rw [hl] at hX
          exact ⟨Γ, w, .value (.tuple #[]), .tuple #[], Gam.ext_refl _ _, R, by rw [hexec, triv _ (.inr ⟨_, _, hX⟩)]; rfl, .undef, .inl rfl⟩
        · rw [if_neg hl] at hk
          obtain ⟨cs, m, zz, cl, hb, hk⟩ := blkCells_ok he hk
          rw [forceN_eq] at hk
          obtain ⟨hle, hk⟩ := guardN_ok he hk
          have hle : off + len * zl.length ≤ m := ble_le hle
          refine ⟨_, _, _, hk, Nat.le_refl _, fun base Γ w a hgl R ht => ?_⟩
          have hr := opG_ok hgx ht; rw [hv] at hr
          obtain ⟨g, hg, hX⟩ := hr.slice_inv
          have hrows := zero_rows hzl hpos Γ len
          have hzs : zl.length = z.cells.size := by have := (toScs_ok hzl).1; simpa using this
          obtain ⟨w', hrun, R'⟩ := Rel.storeCells (P := P) hg (fillT ((List.replicate len zl).flatten) 0 .nil) (Builtin.zeroCells z.cells len).toList 0 0 R hb off
            (by simp [Builtin.zeroCells, ← hzs]; omega) (fun i hi => by
              have hi' : i < ((Array.range (len * zl.length)).map fun j => z.cells[j % z.cells.size]!).size := by
                simpa [Builtin.zeroCells, ← hzs] using hi
              have := hrows i hi'
              have e1 : (Builtin.zeroCells z.cells len).toList[i] = ((Array.range (len * zl.length)).map fun j => z.cells[j % z.cells.size]!)[i] := by
                simp [Builtin.zeroCells, ← hzs]
              rw [e1, Nat.zero_add]
              exact this)
          have hlen : (Builtin.zeroCells z.cells len).toList.length = len * zl.length := by simp [Builtin.zeroCells, ← hzs]
          rw [hlen] at R'
          refine ⟨Γ, w', .value (.tuple #[]), .tuple #[], Gam.ext_refl _ _, R', ?_, .undef, .inl rfl⟩
          rw [hexec, hX]
          have hl0 : len ≠ 0 := fun h => hl (by rw [h]; rfl)
          obtain ⟨l', rfl⟩ : ∃ l', len = l' + 1 := ⟨len - 1, by omega⟩
          simp [Builtin.clear_, ht0, run_underlying hu, zeroValue, H.info hinf, hz, hrun]
    · cases h
  · cases h

theorem evalGs_eq (gs : List (TT → AV)) (t : TT) : evalGs gs t = gs.map fun g => g t := by
  induction gs with
  | nil => rfl
  | cons g gs ih => show g t :: evalGs gs t = _; rw [ih]; rfl
theorem capsL_eq (l : List (Nat × Nat)) : capsL l = l.map fun p => .ptr p.1 p.2 := by
  induction l with
  | nil => rfl
  | cons g gs ih => show _ :: capsL gs = _; rw [ih]; rfl

theorem VRs.append {Γ : Gam} {vs ws : List AV} {Vs Ws : List Value} (h : VRs Γ vs Vs) (h' : VRs Γ ws Ws) : VRs Γ (vs ++ ws) (Vs ++ Ws) := by
  induction h with
  | nil => exact h'
  | cons h _ ih => exact .cons h ih

theorem caps_ok {Γ : Gam} : ∀ {caps : List (Nat × Nat)} {cs : List Value}, cs.length = caps.length →
    (∀ i (hi : i < caps.length), ∃ g, Γ (caps[i].1) = some g ∧ cs[i]? = some (.pointer (some ⟨g.c, g.d + caps[i].2, none⟩))) → VRs Γ (capsL caps) cs
  | [], [], _, _ => .nil
  | [], _ :: _, h, _ => by cases h
  | _ :: _, [], h, _ => by cases h
  | p :: caps, c :: cs, h, hh => by
    obtain ⟨g, hg, hc⟩ := hh 0 (by simp)
    simp only [List.getElem_cons_zero, List.getElem?_cons_zero, Option.some.injEq] at hg hc
    refine .cons ?_ (caps_ok (by simpa using h) (fun i hi => ?_))
    · rw [hc]; exact .ptr _ _ _ hg
    · have := hh (i + 1) (by simp; omega)
      simpa using this

include H in
theorem run_callFunc_has {f : Nat} (h : C.has f = true) (As : Array Value) (w : World) : (callFunc f As).run P w = .ok (.enter f As) w := by
  unfold Ctx.has at h
  cases hf : C.fn f with
  | none => rw [hf] at h; cases h
  | some x =>
    rw [hf] at h
    obtain ⟨h1, h2⟩ := H.fn f x hf
    have h3 : x.name ≠ "runtime.NumGoroutine" := by simpa using h2
    have h4 : x.body ≠ none := by
      have h : x.body.isSome = true := h
      intro hb; rw [hb] at h; cases h
    simp [callFunc, h1, h3, h4]

include H he in
/-- A callee, resolved: what invoke answers. -/
theorem kCallee_core {c : Call} {f : Operand} {ty : TypeId} (hc : c.callee = .value f) {kc : TT → (Nat → List AV → Nat) → Nat} (h : kCallee C e f c.args.toList = some kc) :
    ∀ t k, kc t k = 0 → ∃ fn args, k fn args = 0 ∧ ∀ Γ (a : Act), RelT Γ t a.tmps →
      ∃ D : Deferred, (∀ w, (resolve a.eval c ty).run P w = .ok D w) ∧ (∃ fv cap, D.target = .fn fv cap) ∧ ∃ As : Array Value, (∀ w', (invoke D.target D.args).run P w' = .ok (.enter fn As) w') ∧ VRs Γ args As.toList := by
  unfold kCallee at h
  simp only [Option.bind_eq_bind, Option.bind_eq_some_iff] at h
  obtain ⟨gs, hgs, h⟩ := h
  have general : ∀ (g : TT → AV), opG f = some g → (fun t k => asFn e (g t) fun f caps => guardN e (C.has f) (k f (appL (evalGs gs t) (capsL caps)))) = kc →
      ∀ t k, kc t k = 0 → ∃ fn args, k fn args = 0 ∧ ∀ Γ (a : Act), RelT Γ t a.tmps →
      ∃ D : Deferred, (∀ w, (resolve a.eval c ty).run P w = .ok D w) ∧ (∃ fv cap, D.target = .fn fv cap) ∧ ∃ As : Array Value, (∀ w', (invoke D.target D.args).run P w' = .ok (.enter fn As) w') ∧ VRs Γ args As.toList := by
    intro g hg hkc t k hk
    subst hkc
    obtain ⟨f', caps, hv, hk⟩ := asFn_ok he hk
    obtain ⟨hh, hk⟩ := guardN_ok he hk
    refine ⟨_, _, hk, fun Γ a ht => ?_⟩
    have hr := opG_ok hg ht
    rw [hv] at hr
    obtain ⟨cs, hX, hcs, hcaps⟩ := hr.fn_inv
    refine ⟨{ target := .fn (.func f') cs, args := #[] ++ c.args.map a.eval }, fun w => ?_, ⟨_, _, rfl⟩, (#[] ++ c.args.map a.eval) ++ cs, fun w' => ?_, ?_⟩
    · simp [resolve, hc, Deferred.ofValue, hX]
    · simp only [invoke]
      exact run_callFunc_has H hh _ _
    · rw [appL_eq]
      simp only [Array.toList_append, Array.toList_map, List.nil_append]
      rw [evalGs_eq]; exact (opGs_ok hgs ht).append (caps_ok (by rw [Array.length_toList]; exact hcs) (by simpa using hcaps))
  cases f with
  | func f' =>
    simp only at h
    split at h
    · rename_i hh
      cases h
      intro t k hk
      refine ⟨_, _, hk, fun Γ a ht => ?_⟩
      refine ⟨{ target := .fn (.func f') #[], args := #[] ++ c.args.map a.eval }, fun w => ?_, ⟨_, _, rfl⟩, (#[] ++ c.args.map a.eval) ++ #[], fun w' => ?_, ?_⟩
      · simp [resolve, hc, Deferred.ofValue, Act.eval]
      · simp only [invoke]
        exact run_callFunc_has H hh _ _
      · rw [evalGs_eq]; simpa using opGs_ok hgs ht
    · cases h
  | tmp i => simp only [Option.map_eq_some_iff] at h; obtain ⟨g, hg, h⟩ := h; exact general g hg h
  | const v => simp only [Option.map_eq_some_iff] at h; obtain ⟨g, hg, h⟩ := h; exact general g hg h
  | global v => simp only [Option.map_eq_some_iff] at h; obtain ⟨g, hg, h⟩ := h; exact general g hg h

include H he in
theorem kCall_ok {o : Oper} {c : Call} {f : Operand} (ho : o.op = .call c) (hc : c.callee = .value f) {kc : TT → (Nat → List AV → Nat) → Nat} (h : kCallee C e f c.args.toList = some kc) : CallOKop P C o kc := by
  intro t k hk
  obtain ⟨fn, args, hk, hall⟩ := kCallee_core H he (ty := o.type) hc h t k hk
  refine ⟨fn, args, hk, fun base Γ h n w a hgl R ht => ?_⟩
  obtain ⟨D, hD, _, As, hA, hv⟩ := hall Γ a ht
  exact ⟨As, by simp [execOp, ho, hD, hA], hv⟩

include H he in
theorem kDefer_ok {o : Oper} {c : Call} {f : Operand} (ho : o.op = .defer c) (hc : c.callee = .value f) {kc : TT → (Nat → List AV → Nat) → Nat} (h : kCallee C e f c.args.toList = some kc) : DfrOK P C o kc := by
  intro t k hk
  obtain ⟨fn, args, hk, hall⟩ := kCallee_core H he (ty := o.type) hc h t k hk
  refine ⟨fn, args, hk, fun base Γ h n w a hgl R ht => ?_⟩
  obtain ⟨D, hD, hf, As, hA, hv⟩ := hall Γ a ht
  exact ⟨D, by simp [execOp, ho, hD], hf, As, hA, hv⟩

theorem kRcv_ok {o : Oper} {ts : Array TypeId} (ho : o.op = .call { callee := .builtin .recover, args := #[], argTypes := ts }) : KOK P C o .rcv := by
  intro a w
  simp [execOp, ho, resolve, invoke, builtin]
end

noncomputable def idxL (c : Nat) (k : AV → Nat) (bs : List Nat) : Nat → Nat :=
  List.rec (motive := fun _ => Nat → Nat) (fun _ => k (.int .i64 (Int.negSucc 0))) (fun b _ ih i => ite2 (Nat.beq (Nat.mod b 256) c) (k (.int .i64 (.ofNat i))) (ih (Nat.succ i))) bs
noncomputable def kIdx (e : Nat) (args : List Operand) : Option K :=
  match args with
  | [x, y] => do
    let gx ← opG x
    let gy ← opG y
    return .val fun t _ k => asStr e (gx t) fun bs => asInt e (gy t) fun kd n => guardN e (Nat.beq (kn kd) 4)
      (Int.rec (motive := fun _ => Nat) (fun c => guardN e (Nat.blt c 256) (idxL c k bs 0)) (fun _ => e) n)
  | _ => none

def idxV : Option Nat → Int
  | some j => (j : Int)
  | none => -1

theorem idxL_ok {c : Nat} {k : AV → Nat} {S : ByteArray} (hc : c < 256) : ∀ (bs : List Nat) (i : Nat), (∀ j (hj : j < bs.length), S[i + j]! = UInt8.ofNat bs[j]) → idxL c k bs i = 0 →
    ∃ r : Option Nat, (List.range' i bs.length).find? (fun j => S[j]! == c.toUInt8) = r ∧ k (.int .i64 (idxV r)) = 0
  | [], i, _, h => ⟨none, rfl, h⟩
  | b :: bs, i, hS, h => by
    change ite2 (Nat.beq (b % 256) c) (k (.int .i64 (.ofNat i))) (idxL c k bs (i + 1)) = 0 at h
    rw [ite2_eq] at h
    have h0 := hS 0 (by simp)
    simp only [Nat.add_zero, List.getElem_cons_zero] at h0
    have key : (UInt8.ofNat b == c.toUInt8) = Nat.beq (b % 256) c := by
      rw [Bool.eq_iff_iff]
      simp only [beq_iff_eq, Nat.toUInt8_eq]
      constructor
      · intro he
        have := congrArg UInt8.toNat he
        simp only [UInt8.toNat_ofNat'] at this
        have h2 : c % 256 = c := Nat.mod_eq_of_lt hc
        exact Nat.beq_eq.mpr (by omega)
      · intro he
        have he := Nat.eq_of_beq_eq_true he
        apply UInt8.toNat_inj.1
        simp only [UInt8.toNat_ofNat']
        have h2 : c % 256 = c := Nat.mod_eq_of_lt hc
        omega
    simp only [List.length_cons, List.range'_succ, List.find?_cons, h0, key]
    by_cases hb : Nat.beq (b % 256) c = true
    · rw [if_pos hb] at h
      rw [hb]
      exact ⟨_, rfl, h⟩
    · rw [if_neg hb] at h
      have hb' : Nat.beq (b % 256) c = false := Bool.eq_false_iff.2 hb
      rw [hb']
      exact idxL_ok hc bs (i + 1) (fun j hj => by
        have := hS (j + 1) (by simp; omega)
        simpa [Nat.add_assoc, Nat.add_comm 1 j] using this) h

def IdxOK (P : Program) (f : Nat) : Prop := ∃ fn, P.funcs[f]? = some fn ∧ (fn.name == "runtime.NumGoroutine") = false ∧ fn.body.isNone = true ∧ Extern.findNext fn = none ∧ Extern.find fn = some Extern.BytealgIndexByte.indexByte

section
variable {P : Program} {C : Ctx} (H : CtxOK P C) {e : Nat} (he : e ≠ 0)
include he in
theorem kIdx_ok {o : Oper} {c : Call} {f : Nat} (ho : o.op = .call c) (hc : c.callee = .value (.func f)) (hf : IdxOK P f) {k : K} (h : kIdx e c.args.toList = some k) : KOK P C o k := by
  unfold kIdx at h
  split at h
  · rename_i x y hargs
    have hargs : c.args = #[x, y] := by rw [← Array.toList_inj]; exact hargs
    simp only [Option.bind_eq_bind, Option.bind_eq_some_iff] at h
    obtain ⟨gx, hgx, gy, hgy, h⟩ := h
    cases h
    intro t h k hk
    obtain ⟨bs, hv, hk⟩ := asStr_ok he hk
    obtain ⟨kd, n, hn, hk⟩ := asInt_ok he hk
    obtain ⟨hkd, hk⟩ := guardN_ok he hk
    have hkd : kd = .u8 := kn_inj (b := .u8) hkd
    cases n with
    | negSucc m => exact absurd hk he
    | ofNat m =>
      obtain ⟨hm, hk⟩ := guardN_ok he hk
      have hm : m < 256 := blt_lt hm
      obtain ⟨r, hr, hk⟩ := idxL_ok (S := bytesOf bs) hm bs 0 (fun j hj => by
        have := bytesOf_get bs j
        rw [List.getElem?_eq_getElem hj] at this
        rw [Nat.zero_add, getElem!_def, this]
        rfl) hk
      refine ⟨_, hk, fun base Γ n w a hgl R ht => ⟨_, ?_, .int _ _⟩⟩
      have h1 := opG_ok hgx ht; rw [hv] at h1
      have h2 := opG_ok hgy ht; rw [hn, hkd] at h2
      obtain ⟨fn, f1, f2, f3, f4, f5⟩ := hf
      have hidx : firstIdx (bytesOf bs) (Int.ofNat m).toNat.toUInt8 = idxV r := by
        unfold firstIdx
        rw [bytesOf_size, List.range_eq_range', show (Int.ofNat m).toNat = m from rfl, hr]
        cases r <;> rfl
      have hfe : a.eval (.func f) = .func (.func f) #[] #[] := rfl
      have hexec : (execOp a.eval o).run P w = (callFunc f #[a.eval x, a.eval y]).run P w := by
        simp [execOp, ho, resolve, hc, hargs, Deferred.ofValue, invoke, hfe]
      rw [hexec, h1.str_inv, h2.int_inv, run_callFunc_extern (P := P) f1 f2 f3 f4 f5, run_indexByte_string, hidx]
      rfl
  · cases h
end

/-- A call of a function value. -/
noncomputable def kCallV (C : Ctx) (e : Nat) (f : Operand) (args : List Operand) : Option K := do
  let gs ← opGs args
  let g ← opG f
  return .callv fun t k ky => asFnY e (g t) (fun f caps => guardN e (C.has f) (k f (appL (evalGs gs t) (capsL caps)))) (fun b => ky b (evalGs gs t))

section
variable {P : Program} {C : Ctx} (H : CtxOK P C) {e : Nat} (he : e ≠ 0)
include H he in
theorem kCallV_ok {o : Oper} {c : Call} {f : Operand} (ho : o.op = .call c) (hc : c.callee = .value f) {k : K} (h : kCallV C e f c.args.toList = some k) : KOK P C o k := by
  simp only [kCallV, Option.bind_eq_bind, Option.bind_eq_some_iff] at h
  obtain ⟨gs, hgs, g, hg, h⟩ := h
  cases h
  intro t k ky hk
  rcases asFnY_ok he hk with ⟨f', caps, hv, hk⟩ | ⟨b, hv, hk⟩
  · obtain ⟨hh, hk⟩ := guardN_ok he hk
    refine .inl ⟨_, _, hk, fun base Γ h n w a hgl R ht => ?_⟩
    have hr := opG_ok hg ht
    rw [hv] at hr
    obtain ⟨cs, hX, hcs, hcaps⟩ := hr.fn_inv
    refine ⟨c.args.map a.eval ++ cs, ?_, ?_⟩
    · have := run_callFunc_has H hh (c.args.map a.eval ++ cs) w
      simp [execOp, ho, resolve, hc, Deferred.ofValue, hX, invoke, this]
    · rw [appL_eq, evalGs_eq]
      simp only [Array.toList_append, Array.toList_map]
      exact (opGs_ok hgs ht).append (caps_ok (by rw [Array.length_toList]; exact hcs) (by simpa using hcaps))
  · refine .inr ⟨b, _, hk, fun base Γ h n w a hgl R ht => ?_⟩
    have hr := opG_ok hg ht
    rw [hv] at hr
    obtain ⟨gg, hgg, hX⟩ := hr.yld_inv
    refine ⟨c.args.map a.eval, gg, hgg, ?_, ?_⟩
    · simp [execOp, ho, resolve, hc, Deferred.ofValue, hX, invoke]
    · rw [evalGs_eq]; simpa using opGs_ok hgs ht
end
end Go.Ae
