/- What is answered here: the card. -/
import Derived.Test.YtjmammdlefbemaaGreatDoorTaB
set_option maxRecDepth 100000
namespace Go.Proofs.YtjmammdlefbemaaGreatDoor.topAnsweredHere
open Go
theorem card_holds : Rows.TopAnsweredHereCardSaid :=
  Claim7.holds_tied_plain_at .later [] [.data, .data, .data, .data, .sentinel, .sentinel, .pinned] true (true, "8acebe2e4ff797f77be2ea8d95a64d3c8683a075a9627bd04f42aed251324de7") true over (fun _ h => by cases h) c_wf (fun _ h => by cases h) topAnsweredHere_row_tie rfl ⟨rfl, rfl⟩ c_main rfl
    (fun f fn hf hfn => by
      obtain rfl : f = 5 := Option.some.inj (named.symm.trans hf) |>.symm
      obtain rfl : fn = Tryz.f5 := (Option.some.inj (Tryz.func5.symm.trans hfn)).symm
      exact ⟨c_looks, fun j t ht => by
        rw [Tryz.params5] at ht
        have hm : t ∈ [62, 4, 4, 31] := by simpa using Array.mem_of_getElem? ht
        exact (show Tryz.prog.wantsStandIn t = false by simpa using List.all_eq_true.1 c_stand t hm)⟩)
    c_goes
end Go.Proofs.YtjmammdlefbemaaGreatDoor.topAnsweredHere
