/- The abstract evaluator: soundness of operations, the first part. -/
import Derived.Test.YtjmammdlefbemaaGreatDoorAeB
namespace Go.Ae

structure CtxOK (P : Program) (C : Ctx) : Prop where
  ti : ∀ t i, C.ti t = some i → P.info? t = some i
  fn : ∀ f x, C.fn f = some x → P.funcs[f]? = some x ∧ (x.name == "runtime.NumGoroutine") = false
  mixed : P.follows .mixedOrders = true
  eqs : ∀ t, C.eqs t = true → P.stoodInHeld t = false ∧ P.eqGuardType P.depth t = false

def GlOK (C : Ctx) (base : World) : Prop := ∀ g off kd x, C.gl g off = .int kd x → base.cell? ⟨g, off, none⟩ = some (.int kd x)

theorem CtxOK.und {P : Program} {C : Ctx} (H : CtxOK P C) {t : Nat} {d : TypeDesc} (h : C.und t = some d) : P.underlying t = some d := by
  unfold Ctx.und at h
  cases hi : C.ti t with
  | none => rw [hi] at h; cases h
  | some i =>
    rw [hi] at h
    unfold Program.underlying
    rw [H.ti t i hi]
    obtain ⟨desc, s1, s2, s3, s4, s5, s6, s7, s8, s9⟩ := i
    cases desc
    case named nm u =>
      simp only [] at h ⊢
      cases hu : C.ti u with
      | none => rw [hu] at h; cases h
      | some j => rw [hu] at h; rw [H.ti u j hu]; exact h
    all_goals exact h

theorem CtxOK.size {P : Program} {C : Ctx} (H : CtxOK P C) {t n : Nat} (h : C.size t = some n) (w : World) : (sizeOf t).run P w = .ok n w := by
  unfold Ctx.size at h
  cases hi : C.ti t with
  | none => rw [hi] at h; cases h
  | some i => rw [hi] at h; simp at h; simp [sizeOf, typeInfo, H.ti t i hi, h]

theorem CtxOK.info {P : Program} {C : Ctx} (H : CtxOK P C) {t : Nat} {i : TypeInfo} (h : C.ti t = some i) (w : World) : (typeInfo t).run P w = .ok i w := by
  simp [typeInfo, H.ti t i h]

theorem CtxOK.isAgg {P : Program} {C : Ctx} (H : CtxOK P C) {t : Nat} {b : Bool} (h : C.isAgg t = some b) (w : World) : (isAgg t).run P w = .ok b w := by
  unfold Ctx.isAgg at h
  cases hd : C.und t with
  | none => rw [hd] at h; cases h
  | some d =>
    rw [hd] at h
    simp only [Option.map_some, Option.some.injEq] at h
    unfold Go.isAgg
    simp only [Sem.run_bind, run_underlying (H.und hd), Result.andThen_ok]
    cases d <;> simp_all

section elim
variable {e : Nat} (he : e ≠ 0)
include he
theorem asInt_ok {v : AV} {k : IntKind → Int → Nat} (h : asInt e v k = 0) : ∃ kd n, v = .int kd n ∧ k kd n = 0 := by
  cases v <;> first | exact ⟨_, _, rfl, h⟩ | exact absurd h he
theorem asBool_ok {v : AV} {k : Bool → Nat} (h : asBool e v k = 0) : ∃ b, v = .bool b ∧ k b = 0 := by
  cases v <;> first | exact ⟨_, rfl, h⟩ | exact absurd h he
theorem asPtr_ok {v : AV} {k : Nat → Nat → Nat} (h : asPtr e v k = 0) : ∃ b off, v = .ptr b off ∧ k b off = 0 := by
  cases v <;> first | exact ⟨_, _, rfl, h⟩ | exact absurd h he
theorem asStr_ok {v : AV} {k : List Nat → Nat} (h : asStr e v k = 0) : ∃ bs, v = .str bs ∧ k bs = 0 := by
  cases v <;> first | exact ⟨_, rfl, h⟩ | exact absurd h he
theorem asMap_ok {v : AV} {k : Nat → Nat} (h : asMap e v k = 0) : ∃ b, v = .map b ∧ k b = 0 := by
  cases v <;> first | exact ⟨_, rfl, h⟩ | exact absurd h he
theorem asAgg_ok {v : AV} {k : TT → Nat → Nat} (h : asAgg e v k = 0) : ∃ cs n, v = .agg cs n ∧ k cs n = 0 := by
  cases v <;> first | exact ⟨_, _, rfl, h⟩ | exact absurd h he
theorem asTuple_ok {v : AV} {k : List AV → Nat} (h : asTuple e v k = 0) : ∃ vs, v = .tuple vs ∧ k vs = 0 := by
  cases v <;> first | exact ⟨_, rfl, h⟩ | exact absurd h he
theorem asFn_ok {v : AV} {k : Nat → List (Nat × Nat) → Nat} (h : asFn e v k = 0) : ∃ f cs, v = .fn f cs ∧ k f cs = 0 := by
  cases v <;> first | exact ⟨_, _, rfl, h⟩ | exact absurd h he
theorem asFnY_ok {v : AV} {k : Nat → List (Nat × Nat) → Nat} {ky : Nat → Nat} (h : asFnY e v k ky = 0) : (∃ f cs, v = .fn f cs ∧ k f cs = 0) ∨ (∃ b, v = .yld b ∧ ky b = 0) := by
  cases v <;> first | exact .inl ⟨_, _, rfl, h⟩ | exact .inr ⟨_, rfl, h⟩ | exact absurd h he
theorem asFlt_ok {v : AV} {k : FloatKind → Nat → Nat} (h : asFlt e v k = 0) : ∃ f n, v = .flt f n ∧ k f n = 0 := by
  cases v <;> first | exact ⟨_, _, rfl, h⟩ | exact absurd h he
theorem asSlice_ok {v : AV} {kn : Nat} {kv : Bool → Nat} {k : Nat → Nat → Nat → Bool → Nat → Nat} (h : asSlice e v kn kv k = 0) :
    (v = .nils ∧ kn = 0) ∨ (v = .voidO ∧ kv false = 0) ∨ (v = .voidE ∧ kv true = 0) ∨ ∃ b off len op c, v = .slice b off len op c ∧ k b off len op c = 0 := by
  cases v <;> first | exact absurd h he | exact .inl ⟨rfl, h⟩ | exact .inr (.inl ⟨rfl, h⟩) | exact .inr (.inr (.inl ⟨rfl, h⟩)) | exact .inr (.inr (.inr ⟨_, _, _, _, _, rfl, h⟩))
theorem asPtrN_ok {v : AV} {kn : Nat} {k : Nat → Nat → Nat} (h : asPtrN e v kn k = 0) : (v = .nilp ∧ kn = 0) ∨ ∃ b off, v = .ptr b off ∧ k b off = 0 := by
  cases v <;> first | exact absurd h he | exact .inl ⟨rfl, h⟩ | exact .inr ⟨_, _, rfl, h⟩
theorem asCells_ok {v : AV} {k1 : Nat} {k : TT → Nat → Nat} (h : asCells e v k1 k = 0) :
    (∃ cs n, v = .agg cs n ∧ k cs n = 0) ∨ (k1 = 0 ∧ ∀ Γ V, VR Γ v V → V.oneCell' = true) := by
  cases v <;> first
    | exact absurd h he
    | exact .inl ⟨_, _, rfl, h⟩
    | (refine .inr ⟨h, fun Γ V hv => ?_⟩; cases hv <;> rfl)
theorem blkCells_ok {b : ABlk} {k : TT → Nat → Nat → Bool → Nat} (h : blkCells e b k = 0) : ∃ cs n z cl, b = .cells cs n z cl ∧ k cs n z cl = 0 := by
  cases b <;> first | exact ⟨_, _, _, _, rfl, h⟩ | exact absurd h he
theorem blkMap_ok {b : ABlk} {k : List (AV × AV) → Nat} (h : blkMap e b k = 0) : ∃ es, b = .map es ∧ k es = 0 := by
  cases b <;> first | exact ⟨_, rfl, h⟩ | exact absurd h he
theorem guardN_ok {b : Bool} {k : Nat} (h : guardN e b k = 0) : b = true ∧ k = 0 := by
  cases b <;> first | exact ⟨rfl, h⟩ | exact absurd h he
end elim

theorem ble_le {a b : Nat} (h : Nat.ble a b = true) : a ≤ b := Nat.le_of_ble_eq_true h
theorem blt_lt {a b : Nat} (h : Nat.blt a b = true) : a < b := Nat.le_of_ble_eq_true h

/- trees -/
theorem tget_fillT : ∀ (l : List AV) (i : Nat) (t : TT) (j : Nat), tget (fillT l i t) j = if i ≤ j ∧ j < i + l.length then l.getD (j - i) .undef else tget t j
  | [], i, t, j => by rw [if_neg (by simp only [List.length_nil]; omega)]; rfl
  | v :: l, i, t, j => by
    show tget (fillT l (i + 1) (tset t i v)) j = _
    rw [tget_fillT l (i + 1) (tset t i v) j, tget_tset]
    by_cases h1 : i = j
    · subst h1
      rw [if_neg (by omega), if_pos rfl, if_pos (by simp)]
      simp
    · by_cases h2 : i + 1 ≤ j ∧ j < i + 1 + l.length
      · rw [if_pos h2, if_pos (by simp; omega)]
        rw [show j - i = (j - (i + 1)) + 1 by omega]
        rfl
      · rw [if_neg h2, if_neg h1, if_neg (by simp; omega)]

theorem tget_copyT : ∀ (n : Nat) (cs : TT) (off : Nat) (acc : TT) (i j : Nat), tget (copyT n cs off acc i) j = if i ≤ j ∧ j < i + n then tget cs (off + (j - i)) else tget acc j
  | 0, cs, off, acc, i, j => by rw [if_neg (by omega)]; rfl
  | n + 1, cs, off, acc, i, j => by
    show tget (copyT n cs (off + 1) (tset acc i (tget cs off)) (i + 1)) j = _
    rw [tget_copyT n, tget_tset]
    by_cases h1 : i = j
    · subst h1
      rw [if_neg (by omega), if_pos rfl, if_pos (by omega)]
      simp
    · by_cases h2 : i + 1 ≤ j ∧ j < i + 1 + n
      · rw [if_pos h2, if_pos (by omega)]
        congr 1
        omega
      · rw [if_neg h2, if_neg h1, if_neg (by omega)]

theorem tget_subT (cs : TT) (off n j : Nat) (h : j < n) : tget (subT cs off n) j = tget cs (off + j) := by
  cases off with
  | zero => show tget cs j = _; simp
  | succ o =>
    show tget (copyT n cs (o + 1) .nil 0) j = _
    rw [tget_copyT, if_pos (by omega)]
    simp

theorem readL_length : ∀ (n : Nat) (cs : TT) (off : Nat), (readL n cs off).length = n
  | 0, _, _ => rfl
  | n + 1, cs, off => by show (_ :: readL n cs (off + 1)).length = _; simp [readL_length n]
theorem readL_get : ∀ (n : Nat) (cs : TT) (off i : Nat), i < n → (readL n cs off)[i]? = some (tget cs (off + i))
  | n + 1, cs, off, 0, _ => rfl
  | n + 1, cs, off, i + 1, h => by
    show (tget cs off :: readL n cs (off + 1))[i + 1]? = _
    rw [List.getElem?_cons_succ, readL_get n cs (off + 1) i (by omega)]
    congr 2
    omega

/- constants -/
theorem bytesOf_toList (s : ByteArray) : bytesOf (s.data.toList.map UInt8.toNat) = s := by
  unfold bytesOf
  rw [List.map_map]
  have : (UInt8.ofNat ∘ UInt8.toNat) = id := by funext x; simp
  rw [this, List.map_id]

theorem toSc_ok {v : Value} {x : AV} (h : toSc v = some x) (Γ : Gam) : VR Γ x v ∧ v.oneCell' = true := by
  unfold toSc at h
  split at h <;> first
    | (cases h; refine ⟨?_, rfl⟩; constructor; done)
    | (cases h; done)
    | skip
  · cases h
    refine ⟨?_, rfl⟩
    rename_i s
    have := VR.str (Γ := Γ) (s.data.toList.map UInt8.toNat)
    rwa [bytesOf_toList] at this
  · rename_i f first captured
    split at h
    · rename_i hc
      cases h
      simp only [Bool.and_eq_true, Array.isEmpty_iff] at hc
      obtain ⟨rfl, rfl⟩ := hc
      exact ⟨.fn f [] #[] rfl (fun i hi => absurd hi (by simp)), rfl⟩
    · cases h

theorem toScs_ok : ∀ {vs : List Value} {xs : List AV}, toScs vs = some xs → xs.length = vs.length ∧ ∀ (i : Nat) (v : Value), vs[i]? = some v → ∃ x, xs[i]? = some x ∧ toSc v = some x
  | [], xs, h => by cases h; exact ⟨rfl, fun i v h => by simp at h⟩
  | v :: vs, xs, h => by
    unfold toScs at h
    split at h
    · rename_i x ys hx hy
      cases h
      obtain ⟨h1, h2⟩ := toScs_ok hy
      refine ⟨by simp [h1], fun i u hi => ?_⟩
      cases i with
      | zero => simp at hi; subst hi; exact ⟨x, rfl, hx⟩
      | succ i => simp at hi; simpa using h2 i u hi
    · cases h

theorem fill_ok {cs : Array Value} {l : List AV} (h : toScs cs.toList = some l) (Γ : Gam) : cs.size = l.length ∧ (∀ i (hi : i < cs.size), VR Γ (tget (fillT l 0 .nil) i) cs[i] ∧ cs[i].oneCell' = true) := by
  obtain ⟨h1, h2⟩ := toScs_ok h
  refine ⟨by simpa using h1.symm, fun i hi => ?_⟩
  obtain ⟨x, hx, hs⟩ := h2 i cs[i] (by simp [hi])
  rw [tget_fillT, if_pos ⟨Nat.zero_le _, by simpa [h1] using hi⟩]
  simp only [Nat.sub_zero, List.getD_eq_getElem?_getD, hx, Option.getD_some]
  exact toSc_ok hs Γ

theorem toAV_ok {v : Value} {x : AV} (h : toAV v = some x) (Γ : Gam) : VR Γ x v := by
  unfold toAV at h
  split at h
  · rename_i cs
    cases hs : toScs cs.toList with
    | none => rw [hs] at h; cases h
    | some l =>
      rw [hs] at h
      simp only [Option.map_some, Option.some.injEq] at h
      subst h
      obtain ⟨h1, h2⟩ := fill_ok hs Γ
      exact .agg _ _ _ h1 (fun i hi => (h2 i hi).1) (fun i hi => (h2 i hi).2)
  · rename_i vs
    split at h
    · rename_i hc
      cases h
      simp only [Array.isEmpty_iff] at hc
      subst hc
      exact .undef
    · cases h
  · exact (toSc_ok h Γ).1

theorem opG_ok {x : Operand} {g : TT → AV} (h : opG x = some g) {Γ : Gam} {t : TT} {a : Act} (ht : RelT Γ t a.tmps) : VR Γ (g t) (a.eval x) := by
  cases x with
  | tmp i => cases h; exact ht i
  | const v =>
    change Option.map (fun x _ => x) (toAV v) = some g at h
    cases hv : toAV v with
    | none => rw [hv] at h; cases h
    | some y => rw [hv] at h; simp only [Option.map_some, Option.some.injEq] at h; subst h; exact toAV_ok hv Γ
  | global g => cases h; exact .gptr _ _
  | func f => cases h; exact .fn f [] #[] rfl (fun i hi => absurd hi (by simp))

/- what the relation gives -/
section rel
variable {base : World} {Γ : Gam} {h : HH} {n : Nat} {w : World}

theorem Rel.cell (R : Rel base Γ h n w) {b off : Nat} {g : G} (hg : Γ b = some g) {cs : TT} {m z : Nat} {cl : Bool} (hb : hget h b = .cells cs m z cl) (ho : off < m) :
    ∃ V, w.cell? ⟨g.c, g.d + off, none⟩ = some V ∧ VR Γ (tget cs off) V ∧ V.oneCell' = true ∧ w.frozen? ⟨g.c, g.d + off, none⟩ = false := by
  obtain ⟨o, h1, h2⟩ := R.blk b g hg
  rw [hb] at h2
  cases h2 with
  | cells _ _ _ _ C elem lo hi hc hf ho' =>
    obtain ⟨V, hV, hr, h1c⟩ := hc off ho
    refine ⟨V, by simp [World.cell?, h1, hV], hr, h1c, ?_⟩
    have hlt : g.d + off < C.size := (Array.getElem?_eq_some_iff.1 hV).1
    simp only [World.frozen?, h1]
    rcases hf with ⟨rfl, rfl⟩ | ⟨_, hlo⟩
    · simp
    · have : ¬ lo ≤ g.d + off := by omega
      simp [this]

theorem Rel.store (R : Rel base Γ h n w) {b off : Nat} {g : G} (hg : Γ b = some g) {cs : TT} {m z : Nat} {cl : Bool} (hb : hget h b = .cells cs m z cl) (ho : off < m)
    {v : AV} {V : Value} (hv : VR Γ v V) (h1 : V.oneCell' = true) : Rel base Γ (hset h b (.cells (tset cs off v) m z cl)) n (w.setCell ⟨g.c, g.d + off, none⟩ V) := by
  have hheap : ∀ c, (w.setCell ⟨g.c, g.d + off, none⟩ V).heap[c]? = if g.c = c then (w.heap[c]?).map (fun
      | .cells c elem frozen => .cells (c.setIfInBounds (g.d + off) V) elem frozen
      | o => o) else w.heap[c]? := by
    intro c
    simp only [World.setCell, Array.getElem?_modify]
    split
    · rfl
    · rfl
  have hlive : ∀ x, live (hset h b (.cells (tset cs off v) m z cl)) x → live h x := by
    intro x hx
    unfold live at *
    rw [hget_hset] at hx
    by_cases hbx : b = x
    · subst hbx; rw [hb]; simp
    · rwa [if_neg hbx] at hx
  refine ⟨R.os, R.tape, R.output, by simpa [World.setCell] using R.size, ?_, by simpa [World.setCell] using R.rng, R.fresh, ?_, fun x y gx gy hx hy => R.inj x y gx gy (hlive x hx) (hlive y hy)⟩
  · intro c hc
    rw [hheap, if_neg (by have := (R.rng b g hg).1; omega)]
    exact R.old c hc
  · intro x gx hx
    obtain ⟨o, ho1, ho2⟩ := R.blk x gx hx
    rw [hheap, hget_hset]
    by_cases hbx : b = x
    · subst hbx
      rw [hg] at hx
      cases hx
      rw [if_pos rfl, if_pos rfl, ho1]
      rw [hb] at ho2
      cases ho2 with
      | cells _ _ _ _ C elem lo hi hc hf ho' =>
        refine ⟨_, rfl, .cells _ _ _ _ _ _ _ _ ?_ (by simpa using hf) (by simpa using ho')⟩
        intro i hi
        obtain ⟨W, hW, hr, hW1⟩ := hc i hi
        rw [tget_tset]
        by_cases hio : off = i
        · subst hio
          refine ⟨V, ?_, by simpa using hv, h1⟩
          have hlt : g.d + off < C.size := (Array.getElem?_eq_some_iff.1 hW).1
          simp [hlt]
        · refine ⟨W, ?_, by rw [if_neg hio]; exact hr, hW1⟩
          rw [Array.getElem?_setIfInBounds_ne (by omega)]
          exact hW
    · rw [if_neg hbx]
      by_cases hc : g.c = gx.c
      · -- the same concrete block: then x is dead
        by_cases hlx : live h x
        · exact absurd (R.inj b x g gx (by unfold live; rw [hb]; simp) hlx hg hx hc) hbx
        · have hld : hget h x = .dead := Classical.not_not.mp hlx
          rw [if_pos hc, ho1]
          exact ⟨_, rfl, by rw [hld]; exact .dead _⟩
      · rw [if_neg hc]
        exact ⟨o, ho1, ho2⟩

theorem Rel.alloc (R : Rel base Γ h n w) {B : ABlk} {o : Obj} {g : G} (hc : g.c = w.heap.size) (ho : OR (Γ.put n g) g B o) (dr : Nat) :
    Rel base (Γ.put n g) (hset h n B) (n + 1) { w with heap := w.heap.push o, drawn := dr } := by
  have le : Γ.le (Γ.put n g) := Gam.le_put (R.fresh n (Nat.le_refl _))
  refine ⟨R.os, R.tape, R.output, by simp; have := R.size; omega, ?_, ?_, ?_, ?_, ?_⟩
  · intro c hc'
    have := R.size
    simp only [Array.getElem?_push]
    rw [if_neg (by omega)]
    exact R.old c hc'
  · intro b g' hb
    by_cases hbn : b = n
    · subst hbn
      rw [Gam.put_self] at hb; cases hb
      have := R.size
      simp only [Array.size_push]; omega
    · rw [Gam.put_ne _ _ hbn] at hb
      have := R.rng b g' hb
      simp only [Array.size_push]; omega
  · intro b hb
    rw [Gam.put_ne _ _ (by omega)]
    exact R.fresh b (by omega)
  · intro b g' hb
    by_cases hbn : b = n
    · subst hbn
      rw [Gam.put_self] at hb; cases hb
      refine ⟨o, ?_, by rw [hget_hset, if_pos rfl]; exact ho⟩
      simp only [Array.getElem?_push]
      rw [if_pos hc]
    · rw [Gam.put_ne _ _ hbn] at hb
      obtain ⟨o', h1, h2⟩ := R.blk b g' hb
      have := R.rng b g' hb
      refine ⟨o', ?_, by rw [hget_hset, if_neg (Ne.symm hbn)]; exact h2.mono le⟩
      simp only [Array.getElem?_push]
      rw [if_neg (by omega)]
      exact h1
  · intro b b' gb gb' hl hl' hb hb' hcc
    unfold live at hl hl'
    rw [hget_hset] at hl hl'
    by_cases h1 : b = n
    · by_cases h2 : b' = n
      · rw [h1, h2]
      · subst h1
        rw [Gam.put_self] at hb; cases hb
        rw [Gam.put_ne _ _ h2] at hb'
        have := R.rng b' gb' hb'
        omega
    · by_cases h2 : b' = n
      · subst h2
        rw [Gam.put_self] at hb'; cases hb'
        rw [Gam.put_ne _ _ h1] at hb
        have := R.rng b gb hb
        omega
      · rw [Gam.put_ne _ _ h1] at hb
        rw [Gam.put_ne _ _ h2] at hb'
        rw [if_neg (Ne.symm h1)] at hl
        rw [if_neg (Ne.symm h2)] at hl'
        exact R.inj b b' gb gb' hl hl' hb hb' hcc
end rel
end Go.Ae
