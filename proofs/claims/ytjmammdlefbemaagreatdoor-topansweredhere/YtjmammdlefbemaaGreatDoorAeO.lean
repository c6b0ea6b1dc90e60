/- The abstract evaluator: one operation, compiled. -/
import Derived.Test.YtjmammdlefbemaaGreatDoorAeN
set_option linter.unusedVariables false
set_option linter.unusedSectionVars false
namespace Go.Ae

section
variable (C : Ctx) (ib : Nat → Bool) (e : Nat)
noncomputable def kBuiltin (b : Builtin) (args : List Operand) (ts : List TypeId) : Option K :=
  match b, args, ts with
  | .len, [x], ty :: _ => kLen C e ty x
  | .append, [x, y], ty :: xty :: _ => kAppend C e ty xty x y
  | .min, [x, y], _ => kMinMax e false x y
  | .max, [x, y], _ => kMinMax e true x y
  | .delete, [x, y], ty :: _ => kDelete C e ty x y
  | .clear, [x], ty :: _ => kClear C e ty x
  | .recover, [], _ => some .rcv
  | _, _, _ => none
noncomputable def kCallOp (c : Call) : Option K :=
  match c.callee with
  | .builtin b => kBuiltin C e b c.args.toList c.argTypes.toList
  | .value f => match f with
    | .func f => match ib f with
      | true => kIdx e c.args.toList
      | false => (kCallee C e (.func f) c.args.toList).map .call
    | f => kCallV C e f c.args.toList
  | _ => none
noncomputable def kDeferOp (c : Call) : Option K :=
  match c.callee with
  | .value f => (kCallee C e f c.args.toList).map .dfr
  | _ => none
noncomputable def copO (op : Op) : Option K :=
  match op with
  | .move x => kMove x
  | .assign x => kMove x
  | .pick c a b => kPick e c a b
  | .alloc t => kAlloc C t
  | .box _ x => kBox e x
  | .build t ps => kBuild C e t ps.toList
  | .buildSlice t n ps => kBuildSlice C e t n ps.toList
  | .load t x => kLoad C e t x
  | .store t x y => kStore C e t x y
  | .nilCheck x => kNilCheck e x
  | .binOp op ty x y _ => kBin C e op ty x y
  | .unOp op _ x => kNot e op x
  | .convert s d x => kConvert C e s d x
  | .makeFunc fn first captured => kMakeFunc e fn first.toList captured.toList
  | .makeMap _ none => kMakeMap
  | .makeSlice t l c => kMakeSlice C e t l c
  | .slice t x lo hi mx => kSlice C e t x lo hi mx
  | .fieldAddr s x f => kFieldAddr C e s x f
  | .field t x f => kField C e t x f
  | .indexAddr t x i => kIndexAddr C e t x i
  | .index t x i => kIndex C e t x i
  | .lookup t x i ok => kLookup C e t x i ok
  | .mapUpdate t m k v => kUpdate C e t m k v
  | .insert t m k v => kUpdate C e t m k v
  | .extract x i => kExtract e x i
  | .call c => kCallOp C ib e c
  | .defer c => kDeferOp C e c
  | _ => none
noncomputable def cop (o : Oper) : K := K.of (copO C ib e o.op)
end

section
variable {P : Program} {C : Ctx} (H : CtxOK P C) {ib : Nat → Bool} (hib : ∀ f, ib f = true → IdxOK P f) {e : Nat} (he : e ≠ 0)

theorem arr1 {α : Type} {a : Array α} {x : α} (h : a.toList = [x]) : a = #[x] := by rw [← Array.toList_inj]; exact h
theorem arr2 {α : Type} {a : Array α} {x y : α} (h : a.toList = [x, y]) : a = #[x, y] := by rw [← Array.toList_inj]; exact h
theorem arr0 {α : Type} {a : Array α} (h : a.toList = []) : a = #[] := by rw [← Array.toList_inj]; exact h
theorem arrH {α : Type} {a : Array α} {x : α} {l : List α} (h : a.toList = x :: l) : a[0]? = some x := by rw [← Array.getElem?_toList, h]; rfl
theorem arrH1 {α : Type} {a : Array α} {x y : α} {l : List α} (h : a.toList = x :: y :: l) : a[1]? = some y := by rw [← Array.getElem?_toList, h]; rfl

include H he in
theorem kBuiltin_ok {o : Oper} {c : Call} (ho : o.op = .call c) {b : Builtin} (hb : c.callee = .builtin b) {k : K} (h : kBuiltin C e b c.args.toList c.argTypes.toList = some k) : KOK P C o k := by
  obtain ⟨callee, args, ts⟩ := c
  simp only at hb h
  subst hb
  unfold kBuiltin at h
  split at h
  · rename_i x ty l ha ht
    rw [arr1 ha] at ho
    exact kLen_ok H he ho (arrH ht) h
  · rename_i x y ty xty l ha ht
    rw [arr2 ha] at ho
    exact kAppend_ok H he ho (arrH ht) (arrH1 ht) h
  · rename_i x y _ ha
    rw [arr2 ha] at ho
    exact kMinMax_ok he (mx := false) ho h
  · rename_i x y _ ha
    rw [arr2 ha] at ho
    exact kMinMax_ok he (mx := true) ho h
  · rename_i x y ty l ha ht
    rw [arr2 ha] at ho
    exact kDelete_ok H he ho (arrH ht) h
  · rename_i x ty l ha ht
    rw [arr1 ha] at ho
    exact kClear_ok H he ho (arrH ht) h
  · rename_i _ ha
    rw [arr0 ha] at ho
    cases h
    exact kRcv_ok ho
  · cases h

include H hib he in
theorem kCallOp_ok {o : Oper} {c : Call} (ho : o.op = .call c) {k : K} (h : kCallOp C ib e c = some k) : KOK P C o k := by
  unfold kCallOp at h
  split at h
  · rename_i b hb; exact kBuiltin_ok H he ho hb h
  · rename_i f hf
    split at h
    · rename_i f
      split at h
      · rename_i hi; exact kIdx_ok he ho hf (hib _ hi) h
      · simp only [Option.map_eq_some_iff] at h
        obtain ⟨kc, hkc, h⟩ := h
        cases h
        exact kCall_ok H he ho hf hkc
    · exact kCallV_ok H he ho hf h
  · cases h

include H he in
theorem kDeferOp_ok {o : Oper} {c : Call} (ho : o.op = .defer c) {k : K} (h : kDeferOp C e c = some k) : KOK P C o k := by
  unfold kDeferOp at h
  split at h
  · rename_i f hf
    simp only [Option.map_eq_some_iff] at h
    obtain ⟨kc, hkc, h⟩ := h
    cases h
    exact kDefer_ok H he ho hf hkc
  · cases h

include H hib he in
theorem copO_ok {o : Oper} {k : K} (h : copO C ib e o.op = some k) : KOK P C o k := by
  unfold copO at h
  split at h
  · rename_i x ho; exact kMove_ok (fun a => by simp [execOp, ho]) h
  · rename_i x ho; exact kMove_ok (fun a => by simp [execOp, ho]) h
  · rename_i ho; exact kPick_ok he ho h
  · rename_i ho; exact kAlloc_ok H ho h
  · rename_i ho; exact kBox_ok he ho h
  · rename_i ho; exact kBuild_ok H he ho h
  · rename_i ho; exact kBuildSlice_ok H he ho h
  · rename_i ho; exact kLoad_ok H he ho h
  · rename_i ho; exact kStore_ok H he ho h
  · rename_i ho; exact kNilCheck_ok he ho h
  · rename_i ho; exact kBin_ok H he ho h
  · rename_i ho; exact kNot_ok he ho h
  · rename_i ho; exact kConvert_ok H he ho h
  · rename_i ho; exact kMakeFunc_ok he ho h
  · rename_i ho; exact kMakeMap_ok ho h
  · rename_i ho; exact kMakeSlice_ok H he ho h
  · rename_i ho; exact kSlice_ok H he ho h
  · rename_i ho; exact kFieldAddr_ok H he ho h
  · rename_i ho; exact kField_ok H he ho h
  · rename_i ho; exact kIndexAddr_ok H he ho h
  · rename_i ho; exact kIndex_ok H he ho h
  · rename_i ho; exact kLookup_ok H he ho h
  · rename_i ho; exact kUpdate_ok H he (.inl ho) h
  · rename_i ho; exact kUpdate_ok H he (.inr ho) h
  · rename_i ho; exact kExtract_ok he ho h
  · rename_i ho; exact kCallOp_ok H hib he ho h
  · rename_i ho; exact kDeferOp_ok H he ho h
  · cases h

include H hib he in
theorem cop_ok (o : Oper) : KOK P C o (cop C ib e o) := by
  unfold cop
  cases h : copO C ib e o.op with
  | none => trivial
  | some k => exact copO_ok H hib he h
end
end Go.Ae
