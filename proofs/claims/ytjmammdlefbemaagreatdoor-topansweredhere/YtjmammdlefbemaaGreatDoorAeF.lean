/- The abstract evaluator: soundness of operations, the third part. -/
import Derived.Test.YtjmammdlefbemaaGreatDoorAeE
set_option linter.unusedVariables false
set_option linter.unusedSectionVars false
namespace Go.Ae

theorem forceN_eq (n : Nat) (k : Nat → Nat) : forceN n k = k n := by cases n <;> rfl
theorem ite2_eq (b : Bool) (x y : Nat) : ite2 b x y = if b then x else y := by cases b <;> rfl
theorem addF_eq (off c : Nat) (k : Nat → Nat) : addF off c k = k (off + c) := by
  cases c with
  | zero => rfl
  | succ c => show forceN (off + (c + 1)) k = _; rw [forceN_eq]
theorem lenN_eq {α : Type} : ∀ (l : List α), lenN l = l.length
  | [] => rfl
  | x :: l => by show Nat.succ (lenN l) = _; rw [lenN_eq l]; rfl
theorem dropL_eq : ∀ (n : Nat) (l : List Nat), dropL n l = l.drop n
  | 0, l => rfl
  | n + 1, [] => rfl
  | n + 1, x :: l => by show dropL n l = _; rw [dropL_eq n l]; rfl
theorem takeL_eq : ∀ (n : Nat) (l : List Nat), takeL n l = l.take n
  | 0, l => rfl
  | n + 1, [] => rfl
  | n + 1, x :: l => by show x :: takeL n l = _; rw [takeL_eq n l]; rfl

section elim
variable {e : Nat} (he : e ≠ 0)
include he
theorem asNat_ok {v : AV} {k : Nat → Nat} (h : asNat e v k = 0) : ∃ kd m, v = .int kd (Int.ofNat m) ∧ k m = 0 := by
  obtain ⟨kd, n, hv, hk⟩ := asInt_ok he h
  cases n with
  | ofNat m => exact ⟨kd, m, hv, hk⟩
  | negSucc m => exact absurd hk he
theorem asPtrG_ok {v : AV} {kg k : Nat → Nat → Nat} (h : asPtrG e v kg k = 0) : (∃ b off, v = .gptr b off ∧ kg b off = 0) ∨ ∃ b off, v = .ptr b off ∧ k b off = 0 := by
  cases v <;> first | exact absurd h he | exact .inl ⟨_, _, rfl, h⟩ | exact .inr ⟨_, _, rfl, h⟩
theorem nthL_ok {α : Type} {k : α → Nat} : ∀ {l : List α} {i : Nat}, nthL e l i k = 0 → ∃ x, l[i]? = some x ∧ k x = 0
  | [], i, h => absurd h he
  | x :: l, 0, h => ⟨x, rfl, h⟩
  | x :: l, i + 1, h => by
    obtain ⟨y, hy, hk⟩ := nthL_ok (l := l) (i := i) h
    exact ⟨y, by simpa using hy, hk⟩
theorem optN_ok {g : Option (TT → AV)} {t : TT} {k0 : Nat} {k : Nat → Nat} (h : optN e g t k0 k = 0) :
    (g = none ∧ k0 = 0) ∨ ∃ f kd m, g = some f ∧ f t = .int kd (Int.ofNat m) ∧ k m = 0 := by
  cases g with
  | none => exact .inl ⟨rfl, h⟩
  | some f => obtain ⟨kd, m, hv, hk⟩ := asNat_ok he h; exact .inr ⟨f, kd, m, rfl, hv, hk⟩
end elim

theorem opGo_ok {x : Option Operand} {g : Option (TT → AV)} (h : opGo x = some g) {Γ : Gam} {t : TT} {a : Act} (ht : RelT Γ t a.tmps) :
    (x = none ∧ g = none) ∨ ∃ y f, x = some y ∧ g = some f ∧ VR Γ (f t) (a.eval y) := by
  cases x with
  | none => cases h; exact .inl ⟨rfl, rfl⟩
  | some y =>
    simp only [opGo] at h
    cases hy : opG y with
    | none => rw [hy] at h; cases h
    | some f =>
      rw [hy] at h
      simp only [Option.map_some, Option.some.injEq] at h
      exact .inr ⟨y, f, rfl, h.symm, opG_ok hy ht⟩

section
variable {P : Program} {C : Ctx} (H : CtxOK P C) {e : Nat} (he : e ≠ 0)

include H he in
theorem partK_ok {ty s : Nat} {agg : Bool} (hagg : C.isAgg ty = some agg) (hs : C.size ty = some s) {cs : TT} {n off : Nat} {k : AV → Nat} (hk : partK e agg s cs n off k = 0) :
    ∃ v, k v = 0 ∧ ∀ Γ (Cs : Array Value) w, Cs.size = n → (∀ i (hi : i < Cs.size), VR Γ (tget cs i) Cs[i]) → (∀ i (hi : i < Cs.size), Cs[i].oneCell' = true) →
      ∃ V, (part ty Cs off).run P w = .ok V w ∧ VR Γ v V := by
  cases agg with
  | false =>
    obtain ⟨hlt, hk⟩ := guardN_ok he hk
    have hlt : off < n := blt_lt hlt
    refine ⟨_, hk, fun Γ Cs w hn hc h1 => ⟨Cs[off]'(by omega), ?_, hc off (by omega)⟩⟩
    have : off < Cs.size := by omega
    simp [part, H.isAgg hagg, this]
  | true =>
    obtain ⟨hlt, hk⟩ := guardN_ok he hk
    have hlt : off + s ≤ n := ble_le hlt
    refine ⟨_, hk, fun Γ Cs w hn hc h1 => ⟨.agg (Cs.extract off (off + s)), ?_, .agg _ _ _ ?_ (fun i hi => ?_) (fun i hi => ?_)⟩⟩
    · simp [part, H.isAgg hagg, H.size hs]
    · simp; omega
    · simp only [Array.size_extract] at hi
      rw [tget_subT _ _ _ _ (by omega)]
      simp only [Array.getElem_extract]
      exact hc _ _
    · simp only [Array.size_extract] at hi
      simp only [Array.getElem_extract]
      exact h1 _ _

include H he in
theorem kFieldAddr_ok {o : Oper} {s : Nat} {x : Operand} {i : Nat} (ho : o.op = .fieldAddr s x i) {k : K} (h : kFieldAddr C e s x i = some k) : KOK P C o k := by
  simp only [kFieldAddr, Option.bind_eq_bind, Option.bind_eq_some_iff] at h
  obtain ⟨g, hg, d, hd, h⟩ := h
  split at h
  · rename_i fields
    simp only [Option.bind_eq_some_iff] at h
    obtain ⟨f, hf, sz, hsz, h⟩ := h
    split at h
    · cases h
    · rename_i hsz0
      cases h
      intro t h k hk
      obtain ⟨b, off, hv, hk⟩ := asPtr_ok he hk
      rw [addF_eq] at hk
      refine ⟨_, hk, fun base Γ n w a hgl R ht => ?_⟩
      have hr := opG_ok hg ht
      rw [hv] at hr
      obtain ⟨g', hg', hV⟩ := hr.ptr_inv
      refine ⟨_, ?_, .ptr b (off + f.offset) g' hg'⟩
      have ha : (⟨g'.c, g'.d + off, none⟩ : Addr).add f.offset = ⟨g'.c, g'.d + (off + f.offset), none⟩ := by
        unfold Addr.add; split
        · rename_i h0; simp [h0]
        · simp [Nat.add_assoc]
      simp [execOp, ho, Instr.fieldAt, run_underlying (H.und hd), hf, hV, Instr.sureAddr, fieldPlace, H.size hsz, hsz0, ha]
  · cases h

theorem add_mul (c d off m s : Nat) : (⟨c, d + off, none⟩ : Addr).add (m * s) = ⟨c, d + (off + m * s), none⟩ := by
  unfold Addr.add; split
  · rename_i h0; simp [h0]
  · simp [Nat.add_assoc]

include H he in
theorem kIndexAddr_ok {o : Oper} {ty : Nat} {x i : Operand} (ho : o.op = .indexAddr ty x i) {k : K} (h : kIndexAddr C e ty x i = some k) : KOK P C o k := by
  simp only [kIndexAddr, Option.bind_eq_bind, Option.bind_eq_some_iff] at h
  obtain ⟨gx, hgx, gi, hgi, d, hd, h⟩ := h
  split at h
  · rename_i len elem
    simp only [Option.bind_eq_some_iff] at h
    obtain ⟨s, hs, h⟩ := h
    cases h
    intro t h k hk
    obtain ⟨kd, m, hm, hk⟩ := asNat_ok he hk
    obtain ⟨hlt, hk⟩ := guardN_ok he hk
    have hlt : m < len := blt_lt hlt
    rcases asPtrG_ok he hk with ⟨b, off, hv, hk⟩ | ⟨b, off, hv, hk⟩
    · rw [forceN_eq] at hk
      refine ⟨_, hk, fun base Γ n w a hgl R ht => ?_⟩
      have hr := opG_ok hgx ht
      rw [hv] at hr
      have hi := opG_ok hgi ht
      rw [hm] at hi
      refine ⟨_, ?_, .gptr _ _⟩
      have ha : (⟨b, off, none⟩ : Addr).add (m * s) = ⟨b, off + m * s, none⟩ := by
        unfold Addr.add; split
        · rename_i h0; simp [h0]
        · rfl
      have c1 : (0 : Int) ≤ m ∧ (m : Int) < len := by omega
      simp [execOp, ho, Instr.indexAt, run_underlying (H.und hd), hr.gptr_inv, hi.int_inv, Instr.sureAddr, asIntOf, H.size hs, c1, hlt, ha]
    · rw [forceN_eq] at hk
      refine ⟨_, hk, fun base Γ n w a hgl R ht => ?_⟩
      have hr := opG_ok hgx ht
      rw [hv] at hr
      obtain ⟨g', hg', hV⟩ := hr.ptr_inv
      have hi := opG_ok hgi ht
      rw [hm] at hi
      refine ⟨_, ?_, .ptr _ _ g' hg'⟩
      have c1 : (0 : Int) ≤ m ∧ (m : Int) < len := by omega
      simp [execOp, ho, Instr.indexAt, run_underlying (H.und hd), hV, hi.int_inv, Instr.sureAddr, asIntOf, H.size hs, c1, hlt, add_mul]
  · rename_i elem
    simp only [Option.bind_eq_some_iff] at h
    obtain ⟨s, hs, h⟩ := h
    cases h
    intro t h k hk
    obtain ⟨kd, m, hm, hk⟩ := asNat_ok he hk
    rcases asSlice_ok he hk with ⟨_, hk⟩ | ⟨_, hk⟩ | ⟨_, hk⟩ | ⟨b, off, len, op, c, hv, hk⟩
    · exact absurd hk he
    · exact absurd hk he
    · exact absurd hk he
    · obtain ⟨hlt, hk⟩ := guardN_ok he hk
      have hlt : m < len := blt_lt hlt
      rw [forceN_eq] at hk
      refine ⟨_, hk, fun base Γ n w a hgl R ht => ?_⟩
      have hr := opG_ok hgx ht
      rw [hv] at hr
      obtain ⟨g', hg', hV⟩ := hr.slice_inv
      have hi := opG_ok hgi ht
      rw [hm] at hi
      refine ⟨_, ?_, .ptr _ _ g' hg'⟩
      have c1 : (0 : Int) ≤ m ∧ (m : Int) < len := by omega
      simp [execOp, ho, Instr.indexAt, run_underlying (H.und hd), hV, hi.int_inv, asIntOf, H.size hs, c1, hlt, add_mul]
  · cases h

include H he in
theorem kField_ok {o : Oper} {ty : Nat} {x : Operand} {i : Nat} (ho : o.op = .field ty x i) {k : K} (h : kField C e ty x i = some k) : KOK P C o k := by
  simp only [kField, Option.bind_eq_bind, Option.bind_eq_some_iff] at h
  obtain ⟨g, hg, d, hd, h⟩ := h
  split at h
  · rename_i fields
    simp only [Option.bind_eq_some_iff] at h
    obtain ⟨f, hf, agg, hagg, s, hs, h⟩ := h
    cases h
    intro t h k hk
    obtain ⟨cs, n, hv, hk⟩ := asAgg_ok he hk
    obtain ⟨v, hk, hp⟩ := partK_ok H he hagg hs hk
    refine ⟨v, hk, fun base Γ n' w a hgl R ht => ?_⟩
    have hr := opG_ok hg ht
    rw [hv] at hr
    obtain ⟨Cs, hV, hsz, hc, h1⟩ := hr.agg_inv
    obtain ⟨V, hp, hvr⟩ := hp Γ Cs w hsz hc h1
    refine ⟨V, ?_, hvr⟩
    simp [execOp, ho, Instr.field, run_underlying (H.und hd), hf, hV, Go.asAgg, hp]
  · cases h

theorem bytesOf_size (bs : List Nat) : (bytesOf bs).size = bs.length := by simp [bytesOf, ByteArray.size]

theorem bytesOf_get (bs : List Nat) (i : Nat) : (bytesOf bs)[i]? = (bs[i]?).map UInt8.ofNat := by
  by_cases h : i < bs.length
  · rw [getElem?_pos _ _ (by rw [bytesOf_size]; exact h)]
    show some ((bytesOf bs).data[i]'_) = _
    simp [bytesOf, h]
  · rw [getElem?_neg _ _ (by rw [bytesOf_size]; exact h)]
    simp [List.getElem?_eq_none (Nat.le_of_not_lt h)]

include H he in
theorem kIndex_ok {o : Oper} {ty : Nat} {x i : Operand} (ho : o.op = .index ty x i) {k : K} (h : kIndex C e ty x i = some k) : KOK P C o k := by
  simp only [kIndex, Option.bind_eq_bind, Option.bind_eq_some_iff] at h
  obtain ⟨gx, hgx, gi, hgi, d, hd, h⟩ := h
  split at h
  · rename_i len elem
    simp only [Option.bind_eq_some_iff] at h
    obtain ⟨agg, hagg, s, hs, h⟩ := h
    cases h
    intro t h k hk
    obtain ⟨kd, m, hm, hk⟩ := asNat_ok he hk
    obtain ⟨hlt, hk⟩ := guardN_ok he hk
    have hlt : m < len := blt_lt hlt
    obtain ⟨cs, n, hv, hk⟩ := asAgg_ok he hk
    obtain ⟨v, hk, hp⟩ := partK_ok H he hagg hs hk
    refine ⟨v, hk, fun base Γ n' w a hgl R ht => ?_⟩
    have hr := opG_ok hgx ht
    rw [hv] at hr
    obtain ⟨Cs, hV, hsz, hc, h1⟩ := hr.agg_inv
    obtain ⟨V, hp, hvr⟩ := hp Γ Cs w hsz hc h1
    have hi := opG_ok hgi ht
    rw [hm] at hi
    refine ⟨V, ?_, hvr⟩
    have c1 : (0 : Int) ≤ m ∧ (m : Int) < len := by omega
    have hp' : (part elem Cs (m * s)).run P w = .ok V w := hp
    simp [execOp, ho, Instr.index, run_underlying (H.und hd), hV, hi.int_inv, asIntOf, c1, hlt, H.size hs, hp']
  · cases h
    intro t h k hk
    obtain ⟨kd, m, hm, hk⟩ := asNat_ok he hk
    obtain ⟨bs, hv, hk⟩ := asStr_ok he hk
    obtain ⟨b, hb, hk⟩ := nthL_ok he hk
    rw [forceN_eq] at hk
    refine ⟨_, hk, fun base Γ n' w a hgl R ht => ?_⟩
    have hr := opG_ok hgx ht
    rw [hv] at hr
    have hi := opG_ok hgi ht
    rw [hm] at hi
    refine ⟨.int .u8 ((UInt8.ofNat b).toNat : Nat), ?_, ?_⟩
    · have c1 : (0 : Int) ≤ m := by omega
      simp [execOp, ho, Instr.index, run_underlying (H.und hd), hr.str_inv, hi.int_inv, asIntOf, bytesOf_get, hb]
    · have : (UInt8.ofNat b).toNat = Nat.mod b 256 := by simp [UInt8.toNat_ofNat']; rfl
      rw [this]
      exact .int _ _
  · cases h

include he in
theorem kExtract_ok {o : Oper} {x : Operand} {i : Nat} (ho : o.op = .extract x i) {k : K} (h : kExtract e x i = some k) : KOK P C o k := by
  simp only [kExtract, Option.bind_eq_bind, Option.bind_eq_some_iff] at h
  obtain ⟨g, hg, h⟩ := h
  cases h
  intro t h k hk
  obtain ⟨vs, hv, hk⟩ := asTuple_ok he hk
  obtain ⟨v, hvi, hk⟩ := nthL_ok he hk
  refine ⟨v, hk, fun base Γ n w a hgl R ht => ?_⟩
  have hr := opG_ok hg ht
  rw [hv] at hr
  obtain ⟨Vs, hV, hs, hc⟩ := hr.tuple_inv
  obtain ⟨hlt, hvi⟩ := List.getElem?_eq_some_iff.1 hvi
  refine ⟨Vs[i]'(by omega), ?_, ?_⟩
  · have : i < Vs.size := by omega
    simp [execOp, ho, Instr.extract, hV, this]
  · have := hc i hlt (by omega)
    rwa [hvi] at this
end
end Go.Ae
