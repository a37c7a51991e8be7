/- A part of the proof that the law of this seat holds: R3k; no condition. -/
import Derived.Test.YtcaagfgopmhilaaGreatDoorR3f
namespace Go.Proofs.YtcaagfgopmhilaaGreatDoor
set_option maxRecDepth 100000
set_option maxHeartbeats 100000000 in
theorem facts : joinedFacts Tryz.pinned.checked.prog 3 Tryz.f3 Rows.machineNobodySpec Rows.machineNobodyRow = true := by
  unfold joinedFacts
  rw [f_inPlace, f_unfollowed, f_recurses, f_named]
  repeat refine and_t ?_ ?_
  all_goals (as_aux_lemma => kernel_rfl)
end Go.Proofs.YtcaagfgopmhilaaGreatDoor
