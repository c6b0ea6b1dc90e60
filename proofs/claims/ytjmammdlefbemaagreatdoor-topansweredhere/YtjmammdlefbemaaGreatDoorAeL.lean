/- The abstract evaluator: append. -/
import Derived.Test.YtjmammdlefbemaaGreatDoorAeK
set_option linter.unusedVariables false
set_option linter.unusedSectionVars false
namespace Go.Ae

section defs
variable (C : Ctx) (e : Nat)

noncomputable def srcL (sz : Nat) (h : HH) (v : AV) (k : List AV → Nat → Nat) : Nat :=
  asSlice e v (k [] 0) (fun _ => k [] 0) fun b off m _ _ => blkCells e (hget h b) fun cs nn _ _ => guardN e (Nat.ble (Nat.add off (Nat.mul m sz)) nn) (k (readL (Nat.mul m sz) cs off) m)

/-- a new block made of part of a block (none: nothing) and a list; the old one is dead if the slice's capacity is not known -/
noncomputable def growN (sz : Nat) (src : List AV) (m : Nat) (h : HH) (n : Nat) (k : AV → HH → Nat → Nat) : Nat :=
  forceN (Nat.mul m sz) fun q => k (.slice n 0 m true 0) (hset h n (.cells (fillT src 0 .nil) q sz true)) (Nat.succ n)

noncomputable def appendK (sz : Nat) (src : List AV) (m : Nat) (v : AV) (h : HH) (n : Nat) (k : AV → HH → Nat → Nat) : Nat :=
  asSlice e v (ite2 (Nat.beq m 0) (k .nils h n) (growN sz src m h n k))
    (fun ex => ite2 (Nat.beq m 0) (ite2 ex (k .voidE h n) (k .voidO h n)) (guardN e ex (growN sz src m h n k)))
    fun b off len op c => ite2 (Nat.beq m 0) (guardN e (Bool.rec (motive := fun _ => Bool) (Nat.ble len c) true op) (k (.slice b off len op c) h n))
      (blkCells e (hget h b) fun cs nn z cl => forceN (Nat.add len m) fun need => guardN e (Nat.ble need 65536) (guardN e (Nat.ble (Nat.add off (Nat.mul len sz)) nn)
        (Bool.rec (motive := fun _ => Nat)
          (ite2 (Nat.ble need c)
            (guardN e (Nat.ble (Nat.add off (Nat.mul need sz)) nn) (k (.slice b off need false c) (hset h b (.cells (copyT (Nat.mul m sz) (fillT src 0 .nil) 0 cs (Nat.add off (Nat.mul len sz))) nn z cl)) n))
            (forceN (Nat.mul need sz) fun q => k (.slice n 0 need true 0) (hset h n (.cells (fillT src (Nat.mul len sz) (subT cs off (Nat.mul len sz))) q sz cl)) (Nat.succ n)))
          (guardN e (Nat.beq z sz) (guardN e (Nat.beq off (Nat.mul c sz))
            (forceN (Nat.mul need sz) fun q => k (.slice n 0 need true 0) (hset (hset h b .dead) n (.cells (fillT src (Nat.mul len sz) (subT cs off (Nat.mul len sz))) q sz cl)) (Nat.succ n)))) op)))

noncomputable def kAppend (ty xty : Nat) (s x : Operand) : Option K := do
  let gs ← opG s
  let gx ← opG x
  let d ← C.und ty
  let dx ← C.und xty
  match d with
  | .slice elem =>
    let i ← C.ti elem
    let z ← i.zero
    let zl ← toScs z.cells.toList
    let de ← C.und elem
    if zl.length = i.size && i.bytes ≤ 65536 && 0 < i.size then
      match dx, de with
      | .slice _, _ => some (.wr fun t h n k => srcL e i.size h (gx t) fun src m => guardN e (Nat.ble m 65536) (appendK e i.size src m (gs t) h n k))
      | .string, .int .u8 => if i.size = 1 then some (.wr fun t h n k => asStr e (gx t) fun bs => forceN (lenN bs) fun m => guardN e (Nat.ble m 65536) (appendK e 1 (u8L bs) m (gs t) h n k)) else none
      | _, _ => none
    else none
  | _ => none
end defs

theorem growBy_le (need : Nat) : ∀ (r c : Nat), c < need → Builtin.growBy need r c ≤ 2 * need + 1000
  | 0, c, h => by simp only [Builtin.growBy]; omega
  | r + 1, c, h => by
    simp only [Builtin.growBy]
    split
    · omega
    · by_cases h2 : c + (c + 768) / 4 < need
      · exact growBy_le need r _ h2
      · cases r with
        | zero => simp only [Builtin.growBy]; omega
        | succ r => simp only [Builtin.growBy]; rw [if_pos (by omega)]; omega

theorem nextcap_le {need cap : Nat} (h : cap < need) : Builtin.nextslicecap need cap ≤ 2 * need + 1000 := by
  unfold Builtin.nextslicecap
  split
  · omega
  · split
    · omega
    · exact growBy_le need 4 cap h

/-- cells that a list of values says -/
def LOK (Γ : Gam) (src : List AV) (Cs : Array Value) : Prop := Cs.size = src.length ∧ ∀ i (hi : i < Cs.size), VR Γ (src.getD i .undef) Cs[i] ∧ Cs[i].oneCell' = true

theorem LOK.mono {Γ Δ : Gam} (le : Γ.le Δ) {src : List AV} {Cs : Array Value} (h : LOK Γ src Cs) : LOK Δ src Cs := ⟨h.1, fun i hi => ⟨(h.2 i hi).1.mono le, (h.2 i hi).2⟩⟩

section
variable {P : Program} {C : Ctx} (H : CtxOK P C) {e : Nat} (he : e ≠ 0)

include he in
theorem srcL_ok {sz : Nat} {h : HH} {v : AV} {k : List AV → Nat → Nat} (hk : srcL e sz h v k = 0) : ∃ src m, k src m = 0 ∧ src.length = m * sz ∧
    ∀ base Γ n w V, Rel base Γ h n w → VR Γ v V → (Builtin.lenOf V).run P w = .ok m w ∧
      ∃ Cs, LOK Γ src Cs ∧ ∀ dr, (Builtin.firstCells sz m V).run P { w with drawn := dr } = .ok Cs { w with drawn := dr } := by
  rcases asSlice_ok he hk with ⟨hv, hk⟩ | ⟨hv, hk⟩ | ⟨hv, hk⟩ | ⟨b, off, m, op, c, hv, hk⟩
  · refine ⟨[], 0, hk, by simp, fun base Γ n w V R hr => ?_⟩
    rw [hv] at hr
    rw [hr.nils_inv]
    exact ⟨rfl, #[], ⟨rfl, fun i hi => absurd hi (by simp)⟩, fun dr => rfl⟩
  · refine ⟨[], 0, hk, by simp, fun base Γ n w V R hr => ?_⟩
    rw [hv] at hr
    obtain ⟨A, c, hV⟩ := hr.voidO_inv
    rw [hV]
    exact ⟨rfl, #[], ⟨rfl, fun i hi => absurd hi (by simp)⟩, fun dr => by simp [Builtin.firstCells, loadCells, loadCellsFrom]⟩
  · refine ⟨[], 0, hk, by simp, fun base Γ n w V R hr => ?_⟩
    rw [hv] at hr
    obtain ⟨A, hV⟩ := hr.voidE_inv
    rw [hV]
    exact ⟨rfl, #[], ⟨rfl, fun i hi => absurd hi (by simp)⟩, fun dr => by simp [Builtin.firstCells, loadCells, loadCellsFrom]⟩
  · obtain ⟨cs, nn, z, cl, hb, hk⟩ := blkCells_ok he hk
    obtain ⟨hle, hk⟩ := guardN_ok he hk
    have hle : off + m * sz ≤ nn := ble_le hle
    refine ⟨_, m, hk, readL_length _ _ _, fun base Γ n w V R hr => ?_⟩
    rw [hv] at hr
    obtain ⟨g', hg', hV⟩ := hr.slice_inv
    obtain ⟨Cs, hCs, hload, hok⟩ := R.cells_at (P := P) hg' hb off (m * sz) hle
    refine ⟨by rw [hV]; rfl, Cs, ⟨by rw [hCs, readL_length]; rfl, fun i hi => ?_⟩, fun dr => ?_⟩
    · rw [List.getD_eq_getElem?_getD, readL_get _ _ _ _ (by rw [hCs] at hi; exact hi)]
      exact hok i hi
    · rw [hV]
      exact hload _ (fun i hi => rfl)

/-- a fresh block behind a growing append -/
theorem Rel.growNew {base w : World} {Γ : Gam} {h : HH} {n : Nat} (R : Rel base Γ h n w) {acc : TT} {q sz : Nat} {cl : Bool} {cells : Array Value} {elem cap dr : Nat}
    (hc : ∀ i, i < q → ∃ V, cells[i]? = some V ∧ VR Γ (tget acc i) V ∧ V.oneCell' = true) (hcap : cap * sz ≤ cells.size) (hq : q ≤ cap * sz) :
    Rel base (Γ.put n ⟨w.heap.size, 0, cap⟩) (hset h n (.cells acc q sz cl)) (n + 1) { w with heap := w.heap.push (.cells cells elem (0, 0)), drawn := dr } := by
  refine R.alloc (g := ⟨w.heap.size, 0, cap⟩) rfl ?_ dr
  have le : Γ.le (Γ.put n ⟨w.heap.size, 0, cap⟩) := Gam.le_put (R.fresh n (Nat.le_refl _))
  refine .cells _ _ _ _ _ _ _ _ (fun i hi => ?_) (.inl ⟨rfl, rfl⟩) (fun _ => ⟨by simpa using hcap, hq⟩)
  obtain ⟨V, h1, h2, h3⟩ := hc i hi
  exact ⟨V, by simpa using h1, h2.mono le, h3⟩

/-- a block dies -/
theorem Rel.kill {base w : World} {Γ : Gam} {h : HH} {n : Nat} (R : Rel base Γ h n w) (b : Nat) : Rel base Γ (hset h b .dead) n w := by
  have hlive : ∀ x, live (hset h b .dead) x → live h x ∧ x ≠ b := by
    intro x hx
    unfold live at *
    rw [hget_hset] at hx
    by_cases hbx : b = x
    · rw [if_pos hbx] at hx; exact absurd rfl hx
    · rw [if_neg hbx] at hx; exact ⟨hx, Ne.symm hbx⟩
  refine ⟨R.os, R.tape, R.output, R.size, R.old, R.rng, R.fresh, fun x gx hx => ?_, fun x y gx gy hx hy => R.inj x y gx gy (hlive x hx).1 (hlive y hy).1⟩
  obtain ⟨o, h1, h2⟩ := R.blk x gx hx
  refine ⟨o, h1, ?_⟩
  rw [hget_hset]
  by_cases hbx : b = x
  · rw [if_pos hbx]; exact .dead _
  · rw [if_neg hbx]; exact h2

theorem Rel.drawn {base w : World} {Γ : Gam} {h : HH} {n : Nat} (R : Rel base Γ h n w) (d : Nat) : Rel base Γ h n { w with drawn := d } :=
  ⟨R.os, R.tape, R.output, R.size, R.old, R.rng, R.fresh, R.blk, R.inj⟩

theorem run_append_fits {w : World} {ts : Array TypeId} {ty xty elem : TypeId} {dx : TypeDesc} {rty : TypeId} {sz : Nat} {base' : Option Addr} {sLen sCap m : Nat} {X : Value} {Cs : Array Value} {w' : World}
    (ht0 : ts[0]? = some ty) (ht1 : ts[1]? = some xty) (hu : P.underlying ty = some (.slice elem)) (hux : P.underlying xty = some dx) (hdx : (∃ el, dx = .slice el) ∨ dx = .string)
    (hsz : ∀ w, (sizeOf elem).run P w = .ok sz w) (hlen : (Builtin.lenOf X).run P w = .ok m w) (hfit : sLen + m ≤ sCap)
    (hfirst : (Builtin.firstCells sz m X).run P w = .ok Cs w)
    (hst : ∀ a, base' = some a → (storeCells (a.add (sLen * sz)) Cs.toList).run P w = .ok () w') (hst0 : base' = none → w' = w) :
    (Builtin.append_ ts rty #[.slice base' sLen sCap, X]).run P w = .ok (.slice base' (sLen + m) sCap) w' := by
  rcases hdx with ⟨el, rfl⟩ | rfl <;> cases base' with
  | none => simp [Builtin.append_, ht0, ht1, run_underlying hu, run_underlying hux, hsz, hlen, hfit, hfirst, hst0 rfl]
  | some a => simp [Builtin.append_, ht0, ht1, run_underlying hu, run_underlying hux, hsz, hlen, hfit, hfirst, hst a rfl]

theorem run_append_grows {w : World} {ts : Array TypeId} {ty xty elem : TypeId} {dx : TypeDesc} {rty : TypeId} {i : TypeInfo} {z : Value} {base' : Option Addr} {sLen sCap m : Nat} {X : Value} {Cs Os : Array Value}
    (ht0 : ts[0]? = some ty) (ht1 : ts[1]? = some xty) (hu : P.underlying ty = some (.slice elem)) (hux : P.underlying xty = some dx) (hdx : (∃ el, dx = .slice el) ∨ dx = .string)
    (hi : P.info? elem = some i) (hz : i.zero = some z) (hb : i.bytes ≤ 65536)
    (hlen : (Builtin.lenOf X).run P w = .ok m w) (hfit : ¬ sLen + m ≤ sCap) (hneed : sLen + m ≤ 65536)
    (hfirst : ∀ dr, (Builtin.firstCells i.size m X).run P { w with drawn := dr } = .ok Cs { w with drawn := dr })
    (hold : ∀ dr, (Builtin.firstCells i.size sLen (.slice base' sLen sCap)).run P { w with drawn := dr } = .ok Os { w with drawn := dr }) :
    ∃ newCap, sLen + m ≤ newCap ∧ (Builtin.append_ ts rty #[.slice base' sLen sCap, X]).run P w =
      .ok (.slice (some ⟨w.heap.size, 0, none⟩) (sLen + m) newCap) { w with heap := w.heap.push (.cells (Os ++ Cs ++ Builtin.zeroCells z.cells (newCap - (sLen + m))) elem (0, 0)), drawn := w.drawn + 1 } := by
  refine ⟨Question.cut (.appendCap (sLen + m) sCap elem) (w.tape w.drawn (.appendCap (sLen + m) sCap elem)), by simp [Question.cut], ?_⟩
  have hnc := nextcap_le (need := sLen + m) (cap := sCap) (by omega)
  have hprod : Builtin.nextslicecap (sLen + m) sCap * i.bytes ≤ (2 * 65536 + 1000) * 65536 := Nat.mul_le_mul (by omega) hb
  have hbig : ¬ Builtin.nextslicecap (sLen + m) sCap * i.bytes > 2 ^ 48 := by omega
  have hmax : ¬ (((sLen + m : Nat) : Int) > IntKind.i64.max) := by
    have : IntKind.i64.max = 9223372036854775807 := by simp [IntKind.max, IntKind.signed, IntKind.bits]
    rw [this]; omega
  have hmax' : ¬ ((((sLen + m : Nat) : Int) > IntKind.i64.max) ∧ (False ∨ i.bytes = 0)) := fun h => hmax h.1
  have hsz : ∀ w, (sizeOf elem).run P w = .ok i.size w := fun w => by simp [sizeOf, typeInfo, hi]
  have hti : ∀ w, (typeInfo elem).run P w = .ok i w := fun w => by simp [typeInfo, hi]
  have hzv : ∀ w, (zeroValue elem).run P w = .ok z w := fun w => by simp [zeroValue, typeInfo, hi, hz]
  have hmx : ¬ (9223372036854775807 < (sLen : Int) + (m : Int)) := by omega
  have hfd : (Builtin.firstCells i.size m X).run P w.drew = .ok Cs w.drew := hfirst (w.drawn + 1)
  have hod : (Builtin.firstCells i.size sLen (.slice base' sLen sCap)).run P w.drew = .ok Os w.drew := hold (w.drawn + 1)
  rcases hdx with ⟨el, rfl⟩ | rfl <;>
    simp [Builtin.append_, ht0, ht1, run_underlying hu, run_underlying hux, hsz, hlen, hfit, hti, hmx, hbig, Question.forced, hfd, hod, hzv, newRow] <;> rfl

/-- what an append is called with -/
structure AppCtx (P : Program) (ts : Array TypeId) (i : TypeInfo) (ty xty elem : TypeId) (dx : TypeDesc) (z : Value) : Prop where
  ht0 : ts[0]? = some ty
  ht1 : ts[1]? = some xty
  hu : P.underlying ty = some (.slice elem)
  hux : P.underlying xty = some dx
  hdx : (∃ el, dx = .slice el) ∨ dx = .string
  hi : P.info? elem = some i
  hz : i.zero = some z
  hb : i.bytes ≤ 65536
  pos : 0 < i.size
  zsz : z.cells.size = i.size

theorem zeroCells_size (z : Array Value) (n : Nat) : (Builtin.zeroCells z n).size = n * z.size := by simp [Builtin.zeroCells]

theorem run_storeCells_raw {g o lo hi : Nat} {elem : TypeId} : ∀ (vs : List Value) (j : Nat) (C : Array Value) (w : World), w.heap[g]? = some (.cells C elem (lo, hi)) → o + j + vs.length ≤ C.size →
    ((lo = 0 ∧ hi = 0) ∨ C.size ≤ lo) → (∀ v ∈ vs, v.oneCell' = true) →
    ∃ C' : Array Value, (storeCells ⟨g, o, none⟩ vs j).run P w = .ok () { w with heap := w.heap.setIfInBounds g (.cells C' elem (lo, hi)) } ∧ C'.size = C.size ∧
      ∀ i, C'[i]? = if o + j ≤ i ∧ i < o + j + vs.length then vs[i - (o + j)]? else C[i]?
  | [], j, C, w, hw, hs, hf, h1 => by
    refine ⟨C, ?_, rfl, fun i => by rw [if_neg (by simp only [List.length_nil]; omega)]⟩
    obtain ⟨hlt, hg⟩ := Array.getElem?_eq_some_iff.1 hw
    have : w.heap.setIfInBounds g (.cells C elem (lo, hi)) = w.heap := by
      apply Array.ext_getElem?
      intro i
      by_cases hi' : g = i
      · subst hi'; simp [hlt, hg]
      · rw [Array.getElem?_setIfInBounds_ne hi']
    rw [this]
    rfl
  | v :: vs, j, C, w, hw, hs, hf, h1 => by
    simp only [List.length_cons] at hs
    have hlt : o + j < C.size := by omega
    have ha : (⟨g, o, none⟩ : Addr).add j = ⟨g, o + j, none⟩ := by
      unfold Addr.add; split
      · rename_i h0; subst h0; rfl
      · rfl
    have hcell : w.cell? ⟨g, o + j, none⟩ = some C[o + j] := by simp [World.cell?, hw, hlt]
    have hfz : w.frozen? ⟨g, o + j, none⟩ = false := by
      simp only [World.frozen?, hw]
      rcases hf with ⟨rfl, rfl⟩ | hlo
      · simp
      · have : ¬ lo ≤ o + j := by omega
        simp [this]
    have hset : w.setCell ⟨g, o + j, none⟩ v = { w with heap := w.heap.setIfInBounds g (.cells (C.setIfInBounds (o + j) v) elem (lo, hi)) } := by
      unfold World.setCell
      congr 1
      apply Array.ext_getElem?
      intro i
      simp only [Array.getElem?_modify, Array.getElem?_setIfInBounds]
      by_cases hi' : g = i
      · subst hi'
        obtain ⟨hlt', hge⟩ := Array.getElem?_eq_some_iff.1 hw
        simp [hlt', hge]
      · simp [hi']
    obtain ⟨hglt, _⟩ := Array.getElem?_eq_some_iff.1 hw
    obtain ⟨C', hr, hsz, hall⟩ := run_storeCells_raw (g := g) (o := o) (lo := lo) (hi := hi) (elem := elem) vs (j + 1) (C.setIfInBounds (o + j) v) { w with heap := w.heap.setIfInBounds g (.cells (C.setIfInBounds (o + j) v) elem (lo, hi)) } (by simp [hglt]) (by simp; omega)
      (by simpa using hf) (fun u hu => h1 u (by simp [hu]))
    refine ⟨C', ?_, by simpa using hsz, fun i => ?_⟩
    · simp only [storeCells, Sem.run_bind, ha, run_store P w _ v .plain (h1 v (by simp)), hcell, hfz, hset, Bool.false_eq_true, if_false, Result.andThen_ok, hr]
      simp
    · rw [hall i]
      simp only [List.length_cons]
      by_cases hi' : i = o + j
      · subst hi'
        rw [if_neg (by omega), if_pos (by omega)]
        simp [hlt]
      · rw [Array.getElem?_setIfInBounds_ne (by omega)]
        by_cases hc : o + (j + 1) ≤ i ∧ i < o + (j + 1) + vs.length
        · rw [if_pos hc, if_pos (by omega), show i - (o + j) = (i - (o + (j + 1))) + 1 by omega, List.getElem?_cons_succ]
        · rw [if_neg hc, if_neg (by omega)]

theorem acc_get {src : List AV} {m sz len off : Nat} {cs : TT} (hsrc : src.length = m * sz) {i : Nat} (hi : i < (len + m) * sz) :
    tget (fillT src (len * sz) (subT cs off (len * sz))) i = if i < len * sz then tget cs (off + i) else src.getD (i - len * sz) .undef := by
  rw [tget_fillT, hsrc]
  rw [Nat.add_mul] at hi
  by_cases h : i < len * sz
  · rw [if_neg (by omega), if_pos h, tget_subT _ _ _ _ h]
  · rw [if_pos (by omega), if_neg h]

include he in
theorem appendK_ok {sz m : Nat} {src : List AV} {v : AV} {h : HH} {n : Nat} {k : AV → HH → Nat → Nat} (hk : appendK e sz src m v h n k = 0) (hsrc : src.length = m * sz) (hm : m ≤ 65536) :
    ∃ v' h' n', k v' h' n' = 0 ∧ n ≤ n' ∧ ∀ base Γ w V X ts rty i ty xty elem dx z, AppCtx P ts i ty xty elem dx z → i.size = sz → Rel base Γ h n w → VR Γ v V → (Builtin.lenOf X).run P w = .ok m w →
      (∃ Cs, LOK Γ src Cs ∧ ∀ dr, (Builtin.firstCells sz m X).run P { w with drawn := dr } = .ok Cs { w with drawn := dr }) →
      ∃ Γ' w' V', Gam.ext n Γ Γ' ∧ Rel base Γ' h' n' w' ∧ (Builtin.append_ ts rty #[V, X]).run P w = .ok V' w' ∧ VR Γ' v' V' := by
  -- a growing append that has no old cells
  have grow0 : ∀ {v : AV}, (∀ Γ V, VR Γ v V → ∃ A, V = .slice A 0 0) → (∀ {w : World} {A : Option Addr}, A = A → (Builtin.firstCells sz 0 (.slice A 0 0)).run P w = .ok #[] w) → m ≠ 0 →
      growN sz src m h n k = 0 → ∃ v' h' n', k v' h' n' = 0 ∧ n ≤ n' ∧ ∀ base Γ w V X ts rty i ty xty elem dx z, AppCtx P ts i ty xty elem dx z → i.size = sz → Rel base Γ h n w → VR Γ v V → (Builtin.lenOf X).run P w = .ok m w →
      (∃ Cs, LOK Γ src Cs ∧ ∀ dr, (Builtin.firstCells sz m X).run P { w with drawn := dr } = .ok Cs { w with drawn := dr }) →
      ∃ Γ' w' V', Gam.ext n Γ Γ' ∧ Rel base Γ' h' n' w' ∧ (Builtin.append_ ts rty #[V, X]).run P w = .ok V' w' ∧ VR Γ' v' V' := by
    intro v hv hfirst0 hm0 hk
    have hk : forceN (Nat.mul m sz) (fun q => k (.slice n 0 m true 0) (hset h n (.cells (fillT src 0 .nil) q sz true)) (Nat.succ n)) = 0 := hk
    rw [forceN_eq] at hk
    refine ⟨_, _, _, hk, by omega, fun base Γ w V X ts rty i ty xty elem dx z A his R hr hlen hsrcs => ?_⟩
    subst his
    obtain ⟨Cs, hLOK, hfirst⟩ := hsrcs
    obtain ⟨A0, hV⟩ := hv Γ V hr
    subst hV
    obtain ⟨newCap, hnc, hrun⟩ := run_append_grows (rty := rty) A.ht0 A.ht1 A.hu A.hux A.hdx A.hi A.hz A.hb hlen (sLen := 0) (sCap := 0) (by omega) (by omega) hfirst (fun dr => hfirst0 rfl)
    simp only [Nat.zero_add, Array.empty_append] at hrun hnc
    have hCsz : Cs.size = m * i.size := by rw [hLOK.1, hsrc]
    have hle : newCap * i.size ≤ (Cs ++ Builtin.zeroCells z.cells (newCap - m)).size := by
      rw [Array.size_append, zeroCells_size, hCsz, A.zsz, ← Nat.add_mul]
      exact Nat.mul_le_mul_right _ (by omega)
    refine ⟨_, _, _, Gam.ext_put (R.fresh n (Nat.le_refl _)) (Nat.le_refl _), R.growNew (cap := newCap) (fun j hj => ?_) hle (Nat.mul_le_mul_right _ hnc), hrun, ?_⟩
    · have hj' : j < Cs.size := by rw [hCsz]; exact hj
      refine ⟨Cs[j], by rw [Array.getElem?_append_left hj']; simp [hj'], ?_, (hLOK.2 j hj').2⟩
      rw [tget_fillT, if_pos ⟨Nat.zero_le _, by rw [hsrc]; simpa using hj⟩]
      exact (hLOK.2 j hj').1
    · have := VR.sliceO (Γ := Γ.put n ⟨w.heap.size, 0, newCap⟩) n 0 m 0 ⟨w.heap.size, 0, newCap⟩ (Gam.put_self _ _ _) (by simpa using hnc)
      simpa using this
  -- an append of nothing
  have none0 : m = 0 → ∀ {v : AV}, (∀ Γ V, VR Γ v V → ∃ A l c, V = .slice A l c ∧ l ≤ c) → k v h n = 0 →
      ∃ v' h' n', k v' h' n' = 0 ∧ n ≤ n' ∧ ∀ base Γ w V X ts rty i ty xty elem dx z, AppCtx P ts i ty xty elem dx z → i.size = sz → Rel base Γ h n w → VR Γ v V → (Builtin.lenOf X).run P w = .ok m w →
      (∃ Cs, LOK Γ src Cs ∧ ∀ dr, (Builtin.firstCells sz m X).run P { w with drawn := dr } = .ok Cs { w with drawn := dr }) →
      ∃ Γ' w' V', Gam.ext n Γ Γ' ∧ Rel base Γ' h' n' w' ∧ (Builtin.append_ ts rty #[V, X]).run P w = .ok V' w' ∧ VR Γ' v' V' := by
    intro hm0 v hv hk1
    subst hm0
    refine ⟨v, h, n, hk1, Nat.le_refl _, fun base Γ w V X ts rty i ty xty elem dx z A his R hr hlen hsrcs => ?_⟩
    subst his
    obtain ⟨Cs, hLOK, hfirst⟩ := hsrcs
    obtain ⟨A0, l, c, hV, hlc⟩ := hv Γ V hr
    have hCs : Cs = #[] := by
      apply Array.eq_empty_of_size_eq_zero
      rw [hLOK.1, hsrc]; simp
    subst hCs
    refine ⟨Γ, w, V, Gam.ext_refl _ _, R, ?_, hr⟩
    subst hV
    have := run_append_fits (P := P) (rty := rty) (w := w) (w' := w) (X := X) A.ht0 A.ht1 A.hu A.hux A.hdx (fun w => by simp [sizeOf, typeInfo, A.hi]) hlen (sLen := l) (sCap := c) (base' := A0) (by omega) (hfirst w.drawn)
      (fun a _ => by simp [storeCells]) (fun _ => rfl)
    simpa using this
  rcases asSlice_ok he hk with ⟨hv, hk⟩ | ⟨hv, hk⟩ | ⟨hv, hk⟩ | ⟨b, off, len, op, c, hv, hk⟩
  · rw [hv]
    clear hv
    rw [ite2_eq] at hk
    split at hk
    · rename_i hm0
      exact none0 (beq_nat hm0) (fun Γ V hr => ⟨none, 0, 0, hr.nils_inv, Nat.le_refl _⟩) hk
    · rename_i hm0
      exact grow0 (fun Γ V hr => ⟨none, hr.nils_inv⟩) (fun {w} {A} _ => by cases A <;> simp [Builtin.firstCells, loadCells, loadCellsFrom]) (fun h0 => hm0 (by rw [h0]; rfl)) hk
  · rw [hv]
    clear hv
    rw [ite2_eq] at hk
    split at hk
    · rename_i hm0
      rw [ite2_eq] at hk
      exact none0 (beq_nat hm0) (fun Γ V hr => by obtain ⟨A, c, hV⟩ := hr.voidO_inv; exact ⟨some A, 0, c, hV, Nat.zero_le _⟩) hk
    · exact absurd hk he
  · rw [hv]
    clear hv
    rw [ite2_eq] at hk
    split at hk
    · rename_i hm0
      rw [ite2_eq] at hk
      exact none0 (beq_nat hm0) (fun Γ V hr => by obtain ⟨A, hV⟩ := hr.voidE_inv; exact ⟨some A, 0, 0, hV, Nat.zero_le _⟩) hk
    · rename_i hm0
      exact grow0 (fun Γ V hr => by obtain ⟨A, hV⟩ := hr.voidE_inv; exact ⟨some A, hV⟩) (fun {w} {A} _ => by cases A <;> simp [Builtin.firstCells, loadCells, loadCellsFrom]) (fun h0 => hm0 (by rw [h0]; rfl)) hk
  · rw [hv]
    clear hv
    rw [ite2_eq] at hk
    split at hk
    · rename_i hm0
      obtain ⟨hlc, hk⟩ := guardN_ok he hk
      refine none0 (beq_nat hm0) (fun Γ V hr => ?_) hk
      cases op with
      | false =>
        obtain ⟨g, _, hV⟩ := hr.sliceE_inv
        exact ⟨_, _, _, hV, ble_le hlc⟩
      | true =>
        obtain ⟨g, _, hV, hle⟩ := hr.sliceO_inv
        exact ⟨_, _, _, hV, hle⟩
    · rename_i hm0
      have hm0 : m ≠ 0 := fun h0 => hm0 (by rw [h0]; rfl)
      obtain ⟨cs, nn, zz, cl, hb, hk⟩ := blkCells_ok he hk
      rw [forceN_eq] at hk
      obtain ⟨hneed, hk⟩ := guardN_ok he hk
      obtain ⟨hold, hk⟩ := guardN_ok he hk
      have hneed : len + m ≤ 65536 := ble_le hneed
      have hold : off + len * sz ≤ nn := ble_le hold
      cases op with
      | false =>
        have hk : ite2 (Nat.ble (len + m) c)
            (guardN e (Nat.ble (Nat.add off (Nat.mul (len + m) sz)) nn) (k (.slice b off (len + m) false c) (hset h b (.cells (copyT (Nat.mul m sz) (fillT src 0 .nil) 0 cs (Nat.add off (Nat.mul len sz))) nn zz cl)) n))
            (forceN (Nat.mul (len + m) sz) fun q => k (.slice n 0 (len + m) true 0) (hset h n (.cells (fillT src (Nat.mul len sz) (subT cs off (Nat.mul len sz))) q sz cl)) (Nat.succ n)) = 0 := hk
        rw [ite2_eq] at hk
        split at hk
        · rename_i hfit
          have hfit : len + m ≤ c := ble_le hfit
          obtain ⟨hbd, hk⟩ := guardN_ok he hk
          have hbd : off + (len + m) * sz ≤ nn := ble_le hbd
          refine ⟨_, _, _, hk, Nat.le_refl _, fun base Γ w V X ts rty i ty xty elem dx z A his R hr hlen hsrcs => ?_⟩
          subst his
          obtain ⟨Cs, hLOK, hfirst⟩ := hsrcs
          obtain ⟨g, hg, hV⟩ := hr.sliceE_inv
          have hCsz : Cs.size = m * i.size := by rw [hLOK.1, hsrc]
          rw [Nat.add_mul] at hbd
          obtain ⟨w', hst, R'⟩ := Rel.storeCells (P := P) hg (fillT src 0 .nil) Cs.toList 0 0 R hb (off + len * i.size) (by simp; omega) (fun j hj => by
            simp only [Array.length_toList] at hj
            rw [Nat.zero_add, tget_fillT, if_pos ⟨Nat.zero_le _, by rw [hsrc, ← hCsz]; simpa using hj⟩]
            simpa using hLOK.2 j hj)
          have hrun := run_append_fits (P := P) (rty := rty) (w := w) (w' := w') (X := X) A.ht0 A.ht1 A.hu A.hux A.hdx (fun w => by simp [sizeOf, typeInfo, A.hi]) hlen (sLen := len) (sCap := c) (base' := some ⟨g.c, g.d + off, none⟩) hfit (hfirst w.drawn)
            (fun a ha => by cases ha; rw [add_mul]; exact hst) (fun h => by cases h)
          refine ⟨Γ, w', _, Gam.ext_refl _ _, ?_, by rw [hV]; exact hrun, .sliceE _ _ _ _ g hg⟩
          simp only [Array.length_toList, hCsz, Nat.add_zero] at R'
          exact R'
        · rename_i hfit
          have hfit : ¬ len + m ≤ c := fun hc => hfit (Nat.ble_eq_true_of_le hc)
          rw [forceN_eq] at hk
          refine ⟨_, _, _, hk, by omega, fun base Γ w V X ts rty i ty xty elem dx z A his R hr hlen hsrcs => ?_⟩
          subst his
          obtain ⟨Cs, hLOK, hfirst⟩ := hsrcs
          obtain ⟨g, hg, hV⟩ := hr.sliceE_inv
          have hCsz : Cs.size = m * i.size := by rw [hLOK.1, hsrc]
          obtain ⟨Os, hOs, hload, hok⟩ := R.cells_at (P := P) hg hb off (len * i.size) hold
          obtain ⟨newCap, hnc, hrun⟩ := run_append_grows (P := P) (rty := rty) A.ht0 A.ht1 A.hu A.hux A.hdx A.hi A.hz A.hb hlen (sLen := len) (sCap := c) (base' := some ⟨g.c, g.d + off, none⟩) hfit hneed hfirst
            (fun dr => hload _ (fun j hj => rfl))
          have hsz : (Os ++ Cs ++ Builtin.zeroCells z.cells (newCap - (len + m))).size = newCap * i.size := by
            rw [Array.size_append, Array.size_append, zeroCells_size, hCsz, hOs, A.zsz, ← Nat.add_mul, ← Nat.add_mul]
            congr 1; omega
          refine ⟨_, _, _, Gam.ext_put (R.fresh n (Nat.le_refl _)) (Nat.le_refl _), R.growNew (cap := newCap) (fun j hj => ?_) (by rw [hsz]; exact Nat.le_refl _) (Nat.mul_le_mul_right _ hnc), by rw [hV]; exact hrun, ?_⟩
          · have hj' : j < (len + m) * i.size := hj
            rw [show Nat.mul len i.size = len * i.size from rfl, acc_get hsrc hj']
            rw [Nat.add_mul] at hj'
            by_cases hjl : j < len * i.size
            · refine ⟨Os[j], ?_, by rw [if_pos hjl]; exact (hok j (by omega)).1, (hok j (by omega)).2⟩
              rw [Array.append_assoc, Array.getElem?_append_left (by omega)]; simp [hOs, hjl]
            · have hlt : j - len * i.size < Cs.size := by omega
              refine ⟨Cs[j - len * i.size], ?_, by rw [if_neg hjl]; exact (hLOK.2 _ hlt).1, (hLOK.2 _ hlt).2⟩
              rw [Array.append_assoc, Array.getElem?_append_right (by omega), hOs, Array.getElem?_append_left hlt]
              simp [hlt]
          · have := VR.sliceO (Γ := Γ.put n ⟨w.heap.size, 0, newCap⟩) n 0 (len + m) 0 ⟨w.heap.size, 0, newCap⟩ (Gam.put_self _ _ _) (by simpa using hnc)
            simpa using this
      | true =>
        have hk : guardN e (Nat.beq zz sz) (guardN e (Nat.beq off (Nat.mul c sz)) (forceN (Nat.mul (len + m) sz) fun q =>
          k (.slice n 0 (len + m) true 0) (hset (hset h b .dead) n (.cells (fillT src (Nat.mul len sz) (subT cs off (Nat.mul len sz))) q sz cl)) (Nat.succ n))) = 0 := hk
        obtain ⟨hzz, hk⟩ := guardN_ok he hk
        obtain ⟨hoff, hk⟩ := guardN_ok he hk
        rw [forceN_eq] at hk
        have hzz : zz = sz := beq_nat hzz
        have hoff : off = c * sz := beq_nat hoff
        refine ⟨_, _, _, hk, by omega, fun base Γ w V X ts rty i ty xty elem dx z A his R hr hlen hsrcs => ?_⟩
        subst his
        obtain ⟨Cs, hLOK, hfirst⟩ := hsrcs
        obtain ⟨g, hg, hV, hlc⟩ := hr.sliceO_inv
        have hCsz : Cs.size = m * i.size := by rw [hLOK.1, hsrc]
        by_cases hfit : len + m ≤ g.cap - c
        · -- in place
          obtain ⟨ob, hob, hor⟩ := R.blk b g hg
          rw [hb] at hor
          cases hor with
          | cells _ _ _ _ CC el lo hi hc hf hcap =>
            obtain ⟨hcap1, hcap2⟩ := hcap (by rw [hzz]; have := A.pos; omega)
            rw [hzz] at hcap1 hcap2
            have hcg : c + (len + m) ≤ g.cap := by omega
            have hroom : g.d + off + (len + m) * i.size ≤ CC.size := by
              have := Nat.mul_le_mul_right i.size hcg
              rw [Nat.add_mul] at this
              omega
            rw [Nat.add_mul] at hroom
            have h1 : ∀ v ∈ Cs.toList, v.oneCell' = true := by
              intro v hv
              obtain ⟨j, hj, rfl⟩ := List.getElem_of_mem hv
              simp only [Array.length_toList] at hj
              simpa using (hLOK.2 j hj).2
            obtain ⟨C', hst, hsz', hall⟩ := run_storeCells_raw (P := P) (o := g.d + (off + len * i.size)) Cs.toList 0 CC w hob (by simp; omega) (hf.imp id (·.2)) h1
            have hrun := run_append_fits (P := P) (rty := rty) (w := w) (X := X) A.ht0 A.ht1 A.hu A.hux A.hdx (fun w => by simp [sizeOf, typeInfo, A.hi]) hlen (sLen := len) (sCap := g.cap - c) (base' := some ⟨g.c, g.d + off, none⟩) hfit (hfirst w.drawn)
              (fun a ha => by cases ha; rw [add_mul]; exact hst) (fun h => by cases h)
            have hΓn : Γ n = none := R.fresh n (Nat.le_refl _)
            have hbn : b ≠ n := fun hbn => by rw [hbn, hΓn] at hg; cases hg
            have le : Γ.le (Γ.put n ⟨g.c, g.d + off, g.cap - c⟩) := Gam.le_put hΓn
            refine ⟨Γ.put n ⟨g.c, g.d + off, g.cap - c⟩, _, _, Gam.ext_put hΓn (Nat.le_refl _), ?_, by rw [hV]; exact hrun, ?_⟩
            · have hheap : ∀ q, (w.heap.setIfInBounds g.c (.cells C' el (lo, hi)))[q]? = if g.c = q then some (.cells C' el (lo, hi)) else w.heap[q]? := by
                intro q
                by_cases hq : g.c = q
                · subst hq
                  obtain ⟨hlt, _⟩ := Array.getElem?_eq_some_iff.1 hob
                  simp [hlt]
                · rw [if_neg hq, Array.getElem?_setIfInBounds_ne hq]
              have hgt : ∀ (B : ABlk) x, hget (hset (hset h b .dead) n B) x = if n = x then B else if b = x then .dead else hget h x := by
                intro B x
                rw [hget_hset]
                by_cases hx : n = x
                · rw [if_pos hx, if_pos hx]
                · rw [if_neg hx, if_neg hx, hget_hset]
              refine ⟨R.os, R.tape, R.output, by simpa using R.size, ?_, ?_, ?_, ?_, ?_⟩
              · intro q hq
                show (w.heap.setIfInBounds g.c (.cells C' el (lo, hi)))[q]? = _
                rw [hheap, if_neg (by have := (R.rng b g hg).1; omega)]
                exact R.old q hq
              · intro x gx hx
                by_cases hxn : x = n
                · subst hxn
                  rw [Gam.put_self] at hx; cases hx
                  simpa using R.rng b g hg
                · rw [Gam.put_ne _ _ hxn] at hx
                  simpa using R.rng x gx hx
              · intro x hx
                rw [Gam.put_ne _ _ (by have : n + 1 ≤ x := hx; omega)]
                exact R.fresh x (by have : n + 1 ≤ x := hx; omega)
              · intro x gx hx
                show ∃ o, (w.heap.setIfInBounds g.c (.cells C' el (lo, hi)))[gx.c]? = some o ∧ _
                rw [hheap, hgt]
                by_cases hxn : x = n
                · subst hxn
                  rw [Gam.put_self] at hx; cases hx
                  rw [if_pos rfl, if_pos rfl]
                  refine ⟨_, rfl, .cells _ _ _ _ _ _ _ _ (fun j hj => ?_) (hf.imp id (fun h => ⟨h.1, by omega⟩)) (fun _ => ⟨?_, Nat.mul_le_mul_right _ hfit⟩)⟩
                  · have hj' : j < (len + m) * i.size := hj
                    rw [show Nat.mul len i.size = len * i.size from rfl, acc_get hsrc hj']
                    rw [Nat.add_mul] at hj'
                    show ∃ V, C'[g.d + off + j]? = some V ∧ _
                    rw [hall]
                    simp only [Array.length_toList, Nat.add_zero]
                    by_cases hjl : j < len * i.size
                    · obtain ⟨W, hW, hWr, hW1⟩ := hc (off + j) (by omega)
                      refine ⟨W, ?_, by rw [if_pos hjl]; exact hWr.mono le, hW1⟩
                      rw [if_neg (by omega), Nat.add_assoc]
                      exact hW
                    · have hlt : j - len * i.size < Cs.size := by omega
                      refine ⟨Cs[j - len * i.size], ?_, by rw [if_neg hjl]; exact (hLOK.2 _ hlt).1.mono le, (hLOK.2 _ hlt).2⟩
                      rw [if_pos (by omega), show g.d + off + j - (g.d + (off + len * i.size)) = j - len * i.size by omega]
                      simp [hlt]
                  · show g.d + off + (g.cap - c) * i.size ≤ C'.size
                    have hmul : c * i.size + (g.cap - c) * i.size = g.cap * i.size := by rw [← Nat.add_mul]; congr 1; omega
                    rw [hsz']
                    omega
                · rw [Gam.put_ne _ _ hxn] at hx
                  rw [if_neg (Ne.symm hxn)]
                  obtain ⟨o'', hx1, hx2⟩ := R.blk x gx hx
                  by_cases hxb : b = x
                  · subst hxb
                    rw [hg] at hx; cases hx
                    rw [if_pos rfl, if_pos rfl]
                    exact ⟨_, rfl, .dead _⟩
                  · rw [if_neg hxb]
                    by_cases hcc : g.c = gx.c
                    · rw [if_pos hcc]
                      by_cases hlx : live h x
                      · exact absurd (R.inj b x g gx (by unfold live; rw [hb]; simp) hlx hg hx hcc) hxb
                      · have hld : hget h x = .dead := Classical.not_not.mp hlx
                        exact ⟨_, rfl, by rw [hld]; exact .dead _⟩
                    · rw [if_neg hcc]
                      exact ⟨o'', hx1, hx2.mono le⟩
              · intro x y gx gy hlx hly hx hy hcc
                unfold live at hlx hly
                rw [hgt] at hlx hly
                by_cases hxn : x = n
                · by_cases hyn : y = n
                  · rw [hxn, hyn]
                  · subst hxn
                    rw [Gam.put_self] at hx; cases hx
                    rw [Gam.put_ne _ _ hyn] at hy
                    rw [if_neg (Ne.symm hyn)] at hly
                    by_cases hyb : b = y
                    · rw [if_pos hyb] at hly; exact absurd rfl hly
                    · rw [if_neg hyb] at hly
                      exact absurd (R.inj b y g gy (by unfold live; rw [hb]; simp) hly hg hy hcc) hyb
                · rw [Gam.put_ne _ _ hxn] at hx
                  rw [if_neg (Ne.symm hxn)] at hlx
                  by_cases hxb : b = x
                  · rw [if_pos hxb] at hlx; exact absurd rfl hlx
                  · rw [if_neg hxb] at hlx
                    by_cases hyn : y = n
                    · subst hyn
                      rw [Gam.put_self] at hy; cases hy
                      exact absurd (R.inj b x g gx (by unfold live; rw [hb]; simp) hlx hg hx hcc.symm) hxb
                    · rw [Gam.put_ne _ _ hyn] at hy
                      rw [if_neg (Ne.symm hyn)] at hly
                      by_cases hyb : b = y
                      · rw [if_pos hyb] at hly; exact absurd rfl hly
                      · rw [if_neg hyb] at hly
                        exact R.inj x y gx gy hlx hly hx hy hcc
            · have := VR.sliceO (Γ := Γ.put n ⟨g.c, g.d + off, g.cap - c⟩) n 0 (len + m) 0 ⟨g.c, g.d + off, g.cap - c⟩ (Gam.put_self _ _ _) (by simpa using hfit)
              simpa using this
        · -- grown
          obtain ⟨Os, hOs, hload, hok⟩ := R.cells_at (P := P) hg hb off (len * i.size) hold
          obtain ⟨newCap, hnc, hrun⟩ := run_append_grows (P := P) (rty := rty) A.ht0 A.ht1 A.hu A.hux A.hdx A.hi A.hz A.hb hlen (sLen := len) (sCap := g.cap - c) (base' := some ⟨g.c, g.d + off, none⟩) hfit hneed hfirst
            (fun dr => hload _ (fun j hj => rfl))
          have hsz : (Os ++ Cs ++ Builtin.zeroCells z.cells (newCap - (len + m))).size = newCap * i.size := by
            rw [Array.size_append, Array.size_append, zeroCells_size, hCsz, hOs, A.zsz, ← Nat.add_mul, ← Nat.add_mul]
            congr 1; omega
          refine ⟨_, _, _, Gam.ext_put (R.fresh n (Nat.le_refl _)) (Nat.le_refl _), (R.kill b).growNew (cap := newCap) (fun j hj => ?_) (by rw [hsz]; exact Nat.le_refl _) (Nat.mul_le_mul_right _ hnc), by rw [hV]; exact hrun, ?_⟩
          · have hj' : j < (len + m) * i.size := hj
            rw [show Nat.mul len i.size = len * i.size from rfl, acc_get hsrc hj']
            rw [Nat.add_mul] at hj'
            by_cases hjl : j < len * i.size
            · refine ⟨Os[j], ?_, by rw [if_pos hjl]; exact (hok j (by omega)).1, (hok j (by omega)).2⟩
              rw [Array.append_assoc, Array.getElem?_append_left (by omega)]; simp [hOs, hjl]
            · have hlt : j - len * i.size < Cs.size := by omega
              refine ⟨Cs[j - len * i.size], ?_, by rw [if_neg hjl]; exact (hLOK.2 _ hlt).1, (hLOK.2 _ hlt).2⟩
              rw [Array.append_assoc, Array.getElem?_append_right (by omega), hOs, Array.getElem?_append_left hlt]
              simp [hlt]
          · have := VR.sliceO (Γ := Γ.put n ⟨w.heap.size, 0, newCap⟩) n 0 (len + m) 0 ⟨w.heap.size, 0, newCap⟩ (Gam.put_self _ _ _) (by simpa using hnc)
            simpa using this

include H he in
theorem kAppend_ok {o : Oper} {ts : Array TypeId} {ty xty : Nat} {x y : Operand} (ho : o.op = .call { callee := .builtin .append, args := #[x, y], argTypes := ts }) (ht0 : ts[0]? = some ty) (ht1 : ts[1]? = some xty) {k : K}
    (h : kAppend C e ty xty x y = some k) : KOK P C o k := by
  simp only [kAppend, Option.bind_eq_bind, Option.bind_eq_some_iff] at h
  obtain ⟨gs, hgs, gx, hgx, d, hd, dx, hdx, h⟩ := h
  have hexec : ∀ (a : Act) (w : World), (execOp a.eval o).run P w = ((Builtin.append_ ts o.type #[a.eval x, a.eval y]).run P w).andThen fun v w' => .ok (.value v) w' := by
    intro a w
    simp [execOp, ho, resolve, invoke, builtin]
  split at h
  · rename_i elem
    simp only [Option.bind_eq_some_iff] at h
    obtain ⟨i, hi, z, hz, zl, hzl, de, hde, h⟩ := h
    split at h
    · rename_i hc
      simp only [Bool.and_eq_true, decide_eq_true_eq] at hc
      obtain ⟨⟨hl, hb⟩, hpos⟩ := hc
      have hzs : z.cells.size = i.size := by have := (toScs_ok hzl).1; simp at this; omega
      have hu := H.und hd
      have hux := H.und hdx
      split at h
      · rename_i el
        cases h
        intro t h n k hk
        obtain ⟨src, m, hk, hsl, hsr⟩ := srcL_ok (P := P) he hk
        obtain ⟨hm, hk⟩ := guardN_ok he hk
        obtain ⟨v', h', n', hk, hn, hall⟩ := appendK_ok (P := P) he hk hsl (ble_le hm)
        refine ⟨v', h', n', hk, hn, fun base Γ w a hgl R ht => ?_⟩
        obtain ⟨hlen, Cs, hLOK, hfirst⟩ := hsr base Γ n w _ R (opG_ok hgx ht)
        obtain ⟨Γ', w', V', le, R', hrun, hvr⟩ := hall base Γ w _ (a.eval y) ts o.type i ty xty elem _ z ⟨ht0, ht1, hu, hux, .inl ⟨el, rfl⟩, H.ti _ _ hi, hz, hb, hpos, hzs⟩ rfl R (opG_ok hgs ht) hlen ⟨Cs, hLOK, hfirst⟩
        exact ⟨Γ', w', .value V', V', le, R', by rw [hexec, hrun]; rfl, hvr, .inl rfl⟩
      · split at h
        · rename_i hsz1
          cases h
          intro t h n k hk
          obtain ⟨bs, hv, hk⟩ := asStr_ok he hk
          rw [forceN_eq, lenN_eq] at hk
          obtain ⟨hm, hk⟩ := guardN_ok he hk
          obtain ⟨v', h', n', hk, hn, hall⟩ := appendK_ok (P := P) he hk (by rw [u8L_eq]; simp) (ble_le hm)
          refine ⟨v', h', n', hk, hn, fun base Γ w a hgl R ht => ?_⟩
          have hry := opG_ok hgx ht
          rw [hv] at hry
          have hy := hry.str_inv
          have hfirst : (Builtin.firstCells 1 bs.length (.string (bytesOf bs)) : Sem (Array Value)) = pure (((bytesOf bs).extract 0 bs.length).data.map fun b => .int .u8 b.toNat) := rfl
          have hx0 : ((bytesOf bs).extract 0 bs.length) = bytesOf bs := by rw [bytesOf_extract]; simp
          have hLOK : LOK Γ (u8L bs) ((bytesOf bs).data.map fun b => Value.int .u8 b.toNat) := by
            refine ⟨by rw [u8L_eq]; simp [bytesOf], fun j hj => ?_⟩
            have hj' : j < bs.length := by simpa [bytesOf] using hj
            rw [u8L_eq]
            simp only [List.getD_eq_getElem?_getD, List.getElem?_map, List.getElem?_eq_getElem hj', Option.map_some, Option.getD_some]
            have : ((bytesOf bs).data.map fun b => Value.int .u8 b.toNat)[j] = .int .u8 ((bs[j] % 256 : Nat) : Int) := by simp [bytesOf, UInt8.toNat_ofNat']
            rw [this]
            exact ⟨.int _ _, rfl⟩
          obtain ⟨Γ', w', V', le, R', hrun, hvr⟩ := hall base Γ w _ (a.eval y) ts o.type i ty xty elem _ z ⟨ht0, ht1, hu, hux, .inr rfl, H.ti _ _ hi, hz, hb, hpos, hzs⟩ hsz1 R (opG_ok hgs ht)
            (by rw [hy]; simp [Builtin.lenOf, bytesOf_size]) ⟨_, hLOK, fun dr => by rw [hy, hfirst, hx0]; rfl⟩
          exact ⟨Γ', w', .value V', V', le, R', by rw [hexec, hrun]; rfl, hvr, .inl rfl⟩
        · cases h
      · cases h
    · cases h
  · cases h
end
end Go.Ae
