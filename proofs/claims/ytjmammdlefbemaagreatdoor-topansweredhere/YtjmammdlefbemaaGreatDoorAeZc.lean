/- The abstract evaluator: drawn regions, seventh part: any schedule. -/
import Derived.Test.YtjmammdlefbemaaGreatDoorAeZb
set_option linter.unusedVariables false
set_option linter.unusedSectionVars false
namespace Go.Ae

section
variable {P : Program} {C : Ctx} (H : CtxOK P C) {ib : Nat → Bool} (hib : ∀ f, ib f = true → IdxOK P f) {q N : Nat} {inR : Bool} {id : Nat} {arr : Array Oper} {CY : Bool → CallT} (hcy : CYOK P C CY)

/-- no operation is ready that is not in S -/
def Stuck (arr : Array Oper) (S : Nat → Prop) : Prop := ∀ i o, arr.toList[i]? = some o → (∀ j, bitG (predM o) j = true → S j) → S i

theorem its_all {S : Nat → Prop} (hS : ∀ w i R, mayRun C ib q N inR id (drOf arr.toList) w i R = true → (∀ j, bitG R j = true → S j) → S i) {kk : Nat → Nat → Bool} {X : Prop} : ∀ (its : Ph) {R M : Nat}, chkIts C ib q N inR id (drOf arr.toList) its R M kk = true → (∀ j, bitG R j = true → S j) →
    (∀ R' M', kk R' M' = true → (∀ j, bitG R' j = true → S j) → X) → X
  | [], R, M, hc, hR, hx => hx R M hc hR
  | (true, i) :: its, R, M, hc, hR, hx => by
    have hc : (mayRun C ib q N inR id (drOf arr.toList) false i R && chkIts C ib q N inR id (drOf arr.toList) its (Nat.lor R (bit i)) (Nat.lor M (bit i)) kk) = true := hc
    simp only [Bool.and_eq_true] at hc
    refine its_all hS its hc.2 (fun j hj => ?_) hx
    rw [bitG_lor, Bool.or_eq_true, bitG_bit] at hj
    rcases hj with hj | rfl
    · exact hR j hj
    · exact hS _ _ _ hc.1 hR
  | (false, i) :: its, R, M, hc, hR, hx => by
    have hc : (bitG R i && !wrI C ib q id (drOf arr.toList).ops i && (match nthO (drOf arr.toList).ops i with | some o => usesOK (drOf arr.toList) i R o | none => false) && chkIts C ib q N inR id (drOf arr.toList) its R (Nat.lor M (bit i)) kk) = true := hc
    simp only [Bool.and_eq_true] at hc
    exact its_all hS its hc.2 hR hx

theorem phs_all {S : Nat → Prop} (hS : ∀ w i R, mayRun C ib q N inR id (drOf arr.toList) w i R = true → (∀ j, bitG R j = true → S j) → S i) {last : Ph} : ∀ (phs : List (Ph × Nat)) {R : Nat} {prev : Option Nat}, chkPhs C ib q N inR id (drOf arr.toList) last phs R prev = true → (∀ j, bitG R j = true → S j) → ∀ i, i < arr.toList.length → S i
  | [], R, prev, hc, hR => by
    refine its_all hS last (kk := fun R M => covers C ib q id (drOf arr.toList) M none prev && (rangeL arr.toList.length).all fun i => bitG R i) hc hR ?_
    intro R' M' hk hR' i hi
    simp only [Bool.and_eq_true, List.all_eq_true] at hk
    exact hR' i (hk.2 i ((rangeL_mem _ _).2 hi))
  | (its, w) :: phs, R, prev, hc, hR => by
    refine its_all hS its (kk := fun R M => covers C ib q id (drOf arr.toList) M (some w) prev && chained (drOf arr.toList) w prev &&
      mayRun C ib q N inR id (drOf arr.toList) true w R && chkPhs C ib q N inR id (drOf arr.toList) last phs (Nat.lor R (bit w)) (some w)) hc hR ?_
    intro R' M' hk hR'
    simp only [Bool.and_eq_true] at hk
    refine phs_all hS phs hk.2 (fun j hj => ?_)
    rw [bitG_lor, Bool.or_eq_true, bitG_bit] at hj
    rcases hj with hj | rfl
    · exact hR' j hj
    · exact hS _ _ _ hk.1.2 hR'

theorem Tail.le {kn : St} {t0 tf : TT} {hf : HH} {nf : Nat} {Df : DL} {prev : Option Nat} {he : HH} {ne : Nat} {D : DL} {M : Nat} {ws : List Nat} (T : Tail P C ib q N inR id arr kn t0 tf hf nf Df prev he ne D M ws) : ne ≤ nf := by
  induction T with
  | last => exact Nat.le_refl _
  | next _ _ _ _ h1 _ _ h2 _ _ _ ih => omega
theorem Tail.kn {kn : St} {t0 tf : TT} {hf : HH} {nf : Nat} {Df : DL} {prev : Option Nat} {he : HH} {ne : Nat} {D : DL} {M : Nat} {ws : List Nat} (T : Tail P C ib q N inR id arr kn t0 tf hf nf Df prev he ne D M ws) : kn tf hf nf Df = 0 := by
  induction T with
  | last _ h => exact h
  | next _ _ _ _ _ _ _ _ _ _ _ ih => exact ih
/-- a later writer has another one of the tail, or the one before it, before it -/
theorem Tail.chain {kn : St} {t0 tf : TT} {hf : HH} {nf : Nat} {Df : DL} {prev : Option Nat} {he : HH} {ne : Nat} {D : DL} {M : Nat} {ws : List Nat} (T : Tail P C ib q N inR id arr kn t0 tf hf nf Df prev he ne D M ws) :
    ∀ p0, prev = some p0 → ∀ j ∈ ws, ∃ p, (p = p0 ∨ p ∈ ws) ∧ bitG (Tr.get 0 (drOf arr.toList).anc j) p = true := by
  induction T with
  | last => intro p0 _ j hj; cases hj
  | next _ hw hch _ _ _ _ _ _ _ _ ih =>
    intro p0 hp0 j hj
    rcases List.mem_cons.1 hj with rfl | hj
    · exact ⟨p0, .inl rfl, hch p0 hp0⟩
    · obtain ⟨p, hp, hb⟩ := ih _ rfl j hj
      refine ⟨p, .inr ?_, hb⟩
      rcases hp with rfl | hp
      · simp
      · simp [hp]

theorem mask_after {o : Oper} {S : Nat → Prop} : (∀ e ∈ o.after, Region.binds .any e = true → S e.on) ↔ ∀ j, bitG (predM o) j = true → S j := by
  constructor
  · intro h j hj
    obtain ⟨e, he, hb, rfl⟩ := (predM_ok o j).1 hj
    exact h e he hb
  · intro h e he hb
    exact h e.on ((predM_ok o e.on).2 ⟨e, he, hb, rfl⟩)
end
end Go.Ae
