/- The fast reckoning over all points of eighths: hearts do not go out, and what rests rests. -/
import Derived.Test.YtjhicedblobjfaaE4
namespace Go.Proofs.Ytjhicedblobjfaa

set_option maxRecDepth 1000000
set_option maxHeartbeats 40000000
theorem heart_grid : allB 33 (fun i => allB 33 (gridK (heartK 40) i)) = true := by
  iterate 33 (refine allB_step _ _ (by (iterate 33 (refine allB_step _ _ (by decide +kernel) ?_)); exact rfl) ?_)
  exact rfl
theorem rest_grid : allB 33 (fun i => allB 33 (gridK restK i)) = true := by
  iterate 33 (refine allB_step _ _ (by (iterate 33 (refine allB_step _ _ (by decide +kernel) ?_)); exact rfl) ?_)
  exact rfl
end Go.Proofs.Ytjhicedblobjfaa
