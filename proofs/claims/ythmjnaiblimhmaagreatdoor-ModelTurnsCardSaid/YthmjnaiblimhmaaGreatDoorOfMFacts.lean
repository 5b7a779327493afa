/- The row ModelTurns's closed facts. -/
import Derived.Test.YthmjnaiblimhmaaGreatDoorRows
import Derived.ProofKit
import Derived.Stop.Joined
namespace Go.Proofs.YthmjnaiblimhmaaGreatDoor
open Go Go.ChangeShapes Go.WideShapes Go.ChangeAt Go.RowKit
set_option maxHeartbeats 0 in
theorem closedModelTurns : joinedFacts Tryz.pinned.checked.prog 3 Tryz.f3 Rows.modelTurnsSpec Rows.modelTurnsRow = true := by
  unfold joinedFacts
  repeat' (with_reducible refine Bool.and_eq_true_iff.2 ⟨?_, ?_⟩)
  all_goals (as_aux_lemma => kernel_rfl)
end Go.Proofs.YthmjnaiblimhmaaGreatDoor
