/- A part of the proof that the law of this seat holds: R4; no condition. -/
import Derived.Test.YtcaagfgopmhilaaGreatDoorR3h
import Derived.Test.YtcaagfgopmhilaaGreatDoorR4g
import Derived.Test.YtcaagfgopmhilaaGreatDoorTie
import Derived.Test.YtcaagfgopmhilaaGreatDoorCards
import Derived.SevenTiedAt
namespace Go.Proofs.YtcaagfgopmhilaaGreatDoor
open Go
/-- MachineNobody, as a tied card: for every clause and every number the law returns true, and its arguments read as before. -/
theorem card_holds : Rows.MachineNobodyCardSaid :=
  Claim7.holds_tied_plain_at .later [] [.data, .data, .data, .widerDeep] true (true, "875c8aff655b1ae69fc28ec2dbc596061f11c7e7323f3fc4ab5b54d7c5f83284") false
    row_holds (fun _ h => by cases h) (by kernel_rfl) (fun _ h => by cases h) machineNobody_row_tie rfl ⟨rfl, rfl⟩ (by kernel_rfl) rfl
    (fun f fn hf hfn => by
      obtain rfl : f = 3 := Option.some.inj ((show Tryz.prog.funcNamed "elenchus/elenchuslaw24.MachineNobody" = some 3 by kernel_rfl).symm.trans hf) |>.symm
      obtain rfl : fn = Tryz.f3 := (Option.some.inj (Tryz.func3.symm.trans hfn)).symm
      exact ⟨by kernel_rfl, fun j t ht => by
        rw [Tryz.params3] at ht
        have hm : t ∈ [27, 3] := by simpa using Array.mem_of_getElem? ht
        have hall : ([27, 3].all fun u => !Tryz.prog.wantsStandIn u) = true := by kernel_rfl
        exact (show Tryz.prog.wantsStandIn t = false by simpa using List.all_eq_true.1 hall t hm)⟩)
    goes_by
end Go.Proofs.YtcaagfgopmhilaaGreatDoor
