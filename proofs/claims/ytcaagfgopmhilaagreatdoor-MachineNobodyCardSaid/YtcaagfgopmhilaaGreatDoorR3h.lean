/- A part of the proof that the law of this seat holds: R3h; no condition. -/
import Derived.Test.YtcaagfgopmhilaaGreatDoorR3
import Derived.Test.YtcaagfgopmhilaaGreatDoorR3k
namespace Go.Proofs.YtcaagfgopmhilaaGreatDoor
open Go.ChangeShapes Go.WideShapes Go.ChangeAt Go.WideMaps Go.WideElems Go.RowKit Go.Proofs.YtcaagfgopmhilaaGreatDoor.Vai
theorem named3 : Tryz.pinned.checked.prog.funcNamed Rows.machineNobodyRow.func = some 3 := by kernel_rfl
theorem inst3 : Tryz.f3.isInstance Tryz.pinned.checked.prog Rows.machineNobodyRow.origin Rows.machineNobodyRow.targs := of_decide_eq_true (by kernel_rfl)
theorem wrap3 : Tryz.f3.isWrapper Tryz.pinned.checked.prog Rows.machineNobodyRow.wrapper Rows.machineNobodyRow.mainSum := by
  unfold Func.isWrapper
  first
    | (rw [if_pos (by decide +kernel)]; kernel_rfl)
    | (rw [if_neg (by decide +kernel)]; exact ⟨rfl, rfl⟩)
theorem row_holds : Rows.MachineNobodySaid :=
  OpenClaim.holds_of_wide 3 Tryz.f3 rfl rfl rfl rfl rfl rfl rfl ⟨rfl, rfl, rfl, rfl, rfl⟩ rfl rfl rfl rfl rfl named3 Tryz.func3 facts inst3 wrap3
    (fun os started H enc _ => lifted os started H enc)
end Go.Proofs.YtcaagfgopmhilaaGreatDoor
