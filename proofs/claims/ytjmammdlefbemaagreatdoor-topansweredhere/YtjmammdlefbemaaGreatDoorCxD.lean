/- works() returns true, in any world that holds the table of powers. -/
import Derived.Test.YtjmammdlefbemaaGreatDoorCxC
import Derived.Test.YtjmammdlefbemaaGreatDoorAeZj
set_option maxRecDepth 100000
namespace Go.Ae.S
open Go.Ae Go.RowKit
theorem works_at : CallAt Go.Proofs.Tryz.prog C (ovBool true) 7 := ovBool_ok (cy_ok ctx idx ov_ok 400) works_run
noncomputable def ovW : Nat → Option CallT := fun f => Bool.rec (motive := fun _ => Option CallT) none (some (ovBool true)) (Nat.beq f 7)
theorem ovW_ok (f : Nat) (c : CallT) (h : ovW f = some c) : CallAt Go.Proofs.Tryz.prog C c f := by
  unfold ovW at h
  cases hb : Nat.beq f 7 with
  | false => rw [hb] at h; cases h
  | true =>
    rw [hb] at h
    have hf : f = 7 := Nat.eq_of_beq_eq_true hb
    subst hf
    cases h
    exact works_at
end Go.Ae.S
