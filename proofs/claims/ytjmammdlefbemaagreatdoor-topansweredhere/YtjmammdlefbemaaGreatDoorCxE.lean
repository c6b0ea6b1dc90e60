/- What the row's condition gives: the table of powers. -/
import Derived.Test.YtjmammdlefbemaaGreatDoorCxD
import Derived.Test.YtjmammdlefbemaaGreatDoorTie
import Derived.ProofKit
import Derived.OpenShut
import Derived.LaidMore
import Derived.Lay
import Derived.Stop.Joined
import Derived.Lib.LaidTab
set_option maxRecDepth 100000
namespace Go.Ae.S
open Go Go.Ae Go.Proofs.YtjmammdlefbemaaGreatDoor
abbrev laid : List (String × DataW Unit) := Rows.topAnsweredHereRow.laid
def pows : List Int := [1, 10, 100, 1000, 10000, 100000, 1000000, 10000000, 100000000, 1000000000, 10000000000, 100000000000, 1000000000000, 10000000000000, 100000000000000, 1000000000000000, 10000000000000000, 100000000000000000, 1000000000000000000, 10000000000000000000]
theorem GL_eq : GL = fillT (pows.map (AV.int .u64)) 0 .nil := by kernel_rfl
theorem pows_eq : (Rows.laid_internal_strconv_uint64pow10 : DataW Unit) = Lib.tabData .u64 pows := by kernel_rfl
theorem glOK {W : World} (h : laidMetH Go.Proofs.Tryz.prog laid W) : GlOK C W := by
  rw [MakeChecks.laidMetH_plain _ _ _ (by kernel_rfl)] at h
  obtain ⟨ps, ⟨g0, t0, cs0, f0, p0, q0, hg0, ht0, hv0, hd0, ⟨g1, t1, cs1, f1, p1, q1, hg1, ht1, hv1, hd1, ⟨g, t, cs, fuel, p, q, hg, ht, hv, hd, _, _⟩, _⟩, _⟩, _, _⟩ := h
  obtain rfl := Option.some.inj ((show Go.Proofs.Tryz.prog.globalNamed "internal/strconv.uint64pow10" = some 1 by kernel_rfl).symm.trans hg)
  obtain rfl := Option.some.inj ((show (Go.Proofs.Tryz.prog.globals[1]?).map (·.type) = some 362 by kernel_rfl).symm.trans ht)
  have hd' : DataW.trod (fun _ => ()) Go.Proofs.Tryz.prog W 0 (fun _ => true) false fuel 362 cs.toList = some (Lib.tabData .u64 pows, p) := hd
  have hcs := Lib.cells_of_tab Go.Proofs.Tryz.underlying362 Go.Proofs.Tryz.underlying197 (by kernel_rfl) (by kernel_rfl) hd'
  intro b off kd x hb
  unfold C at hb
  have hb : (Bool.rec (motive := fun _ => AV) .undef (tget GL off) (Nat.beq b 1) : AV) = .int kd x := hb
  cases h1 : Nat.beq b 1 with
  | false => rw [h1] at hb; cases hb
  | true =>
    obtain rfl : b = 1 := Nat.eq_of_beq_eq_true h1
    rw [h1] at hb
    have hb : tget GL off = .int kd x := hb
    rw [GL_eq, tget_fillT] at hb
    rw [World.var?_cell hg hv off, ← Array.getElem?_toList, hcs]
    by_cases ho : 0 ≤ off ∧ off < 0 + (pows.map (AV.int .u64)).length
    · rw [if_pos ho] at hb
      have hl : off < pows.length := by simpa using ho.2
      simp only [Nat.sub_zero, List.getD_eq_getElem?_getD, List.getElem?_map, List.getElem?_eq_getElem hl, Option.map_some, Option.getD_some] at hb ⊢
      cases hb
      rfl
    · rw [if_neg ho, tget_nil] at hb
      cases hb
end Go.Ae.S
