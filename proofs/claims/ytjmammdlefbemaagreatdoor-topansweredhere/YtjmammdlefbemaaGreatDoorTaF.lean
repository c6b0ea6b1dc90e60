/- The closed facts of the row, one by one. -/
import Derived.Test.YtjmammdlefbemaaGreatDoorCards
import Derived.ProofKit
set_option maxRecDepth 100000
namespace Go.Proofs.YtjmammdlefbemaaGreatDoor.topAnsweredHere
open Go
noncomputable abbrev P : Program := Tryz.prog
noncomputable abbrev fn : Func := Tryz.f5
noncomputable abbrev c : OpenClaim := Rows.topAnsweredHereRow
abbrev s : ChangeSpec := Rows.topAnsweredHereSpec
theorem k01 : c.wf (OpenSpec.ofChange s) = true := by kernel_rfl
theorem k02 : laidOutB P = true := by kernel_rfl
theorem k03 : mapsRowed P = true := by kernel_rfl
theorem k04 : fn.params.all (P.readableRec ·) = true := by kernel_rfl
theorem k05 : namedTie P c.named s.vars = true := by kernel_rfl
theorem k06 : (c.stops == []) = true := by kernel_rfl
theorem k07 : (P.stops == []) = true := by kernel_rfl
theorem k08 : (c.knobs == []) = true := by kernel_rfl
theorem k09 : (P.stopKnobs == []) = true := by kernel_rfl
theorem k10 : (c.inPlace == P.inPlace 5) = true := by kernel_rfl
theorem k11 : (c.unfollowed == P.unfollowed 5) = true := by kernel_rfl
theorem k12 : (c.recurses == P.recurses 5) = true := by kernel_rfl
theorem k13 : (c.named == P.varsNamed 5) = true := by kernel_rfl
theorem k14 : (c.maps == (fn.params.toList ++ s.plain.varTypes P).any (P.mapsRec ·)) = true := by kernel_rfl
theorem k15 : (c.ifaces == (fn.params.toList ++ s.plain.varTypes P).any (P.ifacesRec ·)) = true := by kernel_rfl
theorem k16 : (c.mapsOut == P.mapsAmong fn.resultTypes.toList) = true := by kernel_rfl
theorem k17 : (c.loops == (fn.params.toList ++ s.plain.varTypes P).any (P.loopsFrom ·)) = true := by kernel_rfl
theorem k18 : (c.wideKeys == (fn.params.toList ++ s.plain.varTypes P ++ fn.resultTypes.toList).any (P.wideKeysFrom ·)) = true := by kernel_rfl
theorem k19 : s.vars.all (P.varReadable ·) = true := by kernel_rfl
theorem k20 : fn.resultTypes.all (fun t => P.readableRec t && decide (t < P.types.size)) = true := by kernel_rfl
theorem k21 : (c.ifacesOut == fn.resultTypes.toList.any (P.ifacesRec ·)) = true := by kernel_rfl
theorem k22 : (c.loopsOut == fn.resultTypes.toList.any (P.loopsFrom ·)) = true := by kernel_rfl
theorem k23 : (c.plainKeys == P.plainKeys) = true := by kernel_rfl
theorem k24 : c.shortTexts.isNone = true := by kernel_rfl
theorem k25 : P.stopsHeard = true := by kernel_rfl
theorem k26 : P.mayEnter = true := by kernel_rfl
theorem k27 : (c.lifted == P.liftsFinal) = true := by kernel_rfl
theorem k28 : (P.make == some c.make) = true := by kernel_rfl
theorem k29 : (c.kinds == (if c.domain.isEmpty then [] else fn.params.toList.map fun t => match P.underlying t with | some (.int k) => some k | _ => none)) = true := by kernel_rfl
theorem k30 : (c.pinned == c.pinnedBy) = true := by kernel_rfl
theorem k31 : (c.veiled == (fn.params.toList ++ s.plain.varTypes P ++ fn.resultTypes.toList).any (P.veiledRec ·)) = true := by kernel_rfl
theorem k32 : c.veiledFits P fn.params.toList (fn.params.toList ++ s.plain.varTypes P ++ fn.resultTypes.toList) = true := by kernel_rfl
end Go.Proofs.YtjmammdlefbemaaGreatDoor.topAnsweredHere
