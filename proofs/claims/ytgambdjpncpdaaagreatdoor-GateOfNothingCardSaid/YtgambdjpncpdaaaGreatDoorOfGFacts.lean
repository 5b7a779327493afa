/- The row GateOfNothing's closed facts. -/
import Derived.Test.YtgambdjpncpdaaaGreatDoorRows
import Derived.ProofKit
import Derived.Stop.Joined
namespace Go.Proofs.YtgambdjpncpdaaaGreatDoor
open Go Go.ChangeShapes Go.WideShapes Go.ChangeAt Go.RowKit
set_option maxHeartbeats 0 in
theorem closedGateOfNothing : joinedFacts Tryz.pinned.checked.prog 3 Tryz.f3 Rows.gateOfNothingSpec Rows.gateOfNothingRow = true := by
  unfold joinedFacts
  repeat' (with_reducible refine Bool.and_eq_true_iff.2 ⟨?_, ?_⟩)
  all_goals (as_aux_lemma => kernel_rfl)
end Go.Proofs.YtgambdjpncpdaaaGreatDoor
