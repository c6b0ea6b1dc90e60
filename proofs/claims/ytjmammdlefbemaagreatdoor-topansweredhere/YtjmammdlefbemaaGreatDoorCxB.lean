/- huffman.made gives its table. -/
import Derived.Test.YtjmammdlefbemaaGreatDoorCxA
set_option maxRecDepth 100000
namespace Go.Ae.S
open Go.Ae
theorem made_run : Nat.beq (cy C ib ov0 60 false 356 [] .nil 0 (chkBlock BOOK 514)) 0 = true := by kernel_rfl
theorem made_at : CallAt Go.Proofs.Tryz.prog C (ovBlock BOOK 514) 356 :=
  ovBlock_ok (cy_ok ctx idx (fun f c h => by cases h) 60) (by kernel_rfl) (Nat.eq_of_beq_eq_true made_run)
theorem ov_ok (f : Nat) (c : CallT) (h : ov f = some c) : CallAt Go.Proofs.Tryz.prog C c f := by
  unfold ov at h
  cases hb : Nat.beq f 356 with
  | false => rw [hb] at h; cases h
  | true =>
    rw [hb] at h
    have hf : f = 356 := Nat.eq_of_beq_eq_true hb
    subst hf
    cases h
    exact made_at
end Go.Ae.S
