/- The abstract evaluator: what it says of a call, in the kit's words. -/
import Derived.Test.YtjmammdlefbemaaGreatDoorAeZg
import Derived.Below
set_option linter.unusedVariables false
set_option linter.unusedSectionVars false
namespace Go.Ae
open Go.RowKit

theorem Rel.below {base w : World} {Γ : Gam} {h : HH} {n : Nat} (R : Rel base Γ h n w) : Below base.heap.size base w :=
  ⟨R.os, R.tape, R.output, R.size, R.old⟩

/-- the answer is this truth -/
noncomputable def chkBool (b : Bool) : AV → HH → Nat → Nat := fun v _ _ => asBool 1 v fun c => guardN 1 (boolEq c b) 0

/-- A call without arguments that the evaluator sees come to b: so it does, in any world that holds the tables. -/
theorem calls_bool {P : Program} {C : Ctx} {c : CallT} {f : Nat} {b : Bool} (hc : CallAt P C c f) (hrun : c f [] .nil 0 (chkBool b) = 0) {w : World} (hgl : GlOK C w) :
    Calls P f #[] w fun e w' => e = .returned (.bool b) ∧ Below w.heap.size w w' := by
  intro cs
  obtain ⟨v, h', n', hk, _, hall⟩ := hc [] .nil 0 _ hrun
  obtain ⟨c', hv, hk⟩ := asBool_ok (e := 1) (by decide) hk
  obtain ⟨hb, _⟩ := guardN_ok (e := 1) (by decide) hk
  have hb := boolEq_ok hb
  subst hb
  obtain ⟨Γ', w', fr, V, le, R', hV, hst, hk1, hgo⟩ := hall w _ w #[] cs .normal hgl (Rel.start w) .nil (.inl rfl)
  rw [hv] at hV
  have hV := hV.bool_inv
  subst hV
  exact ⟨_, w', fr, ⟨rfl, R'.below⟩, hst, hk1.2, hgo.1, hgo.2.1, hk1.1, hgo.2.2⟩

theorem calls_bool_b {P : Program} {C : Ctx} {c : Bool → CallT} {f : Nat} {b : Bool} (hc : CYOK P C c) (hrun : Nat.beq (c false f [] .nil 0 (chkBool b)) 0 = true) {w : World} (hgl : GlOK C w) :
    Calls P f #[] w fun e w' => e = .returned (.bool b) ∧ Below w.heap.size w w' :=
  calls_bool (c := c false) (fun args h n k hk => hc.1 f args h n k hk) (Nat.eq_of_beq_eq_true hrun) hgl
end Go.Ae
