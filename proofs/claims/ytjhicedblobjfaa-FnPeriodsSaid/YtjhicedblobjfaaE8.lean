/- The derivative's walk over all points of eighths: never too small where the number goes out. -/
import Derived.Test.YtjhicedblobjfaaML
namespace Go.Proofs.Ytjhicedblobjfaa

set_option maxRecDepth 1000000
set_option maxHeartbeats 40000000
theorem bord_grid : allB 33 (fun i => allB 33 (gridK (fun a b => bordK a b 40 (.ofNat 0) (.ofNat 0) (.ofNat 0) (.ofNat 0)) i)) = true := by
  iterate 33 (refine allB_step _ _ (by (iterate 33 (refine allB_step _ _ (by decide +kernel) ?_)); exact rfl) ?_)
  exact rfl
theorem heart_grid41 : allB 33 (fun i => allB 33 (gridK (heartK 41) i)) = true := by
  iterate 33 (refine allB_step _ _ (by (iterate 33 (refine allB_step _ _ (by decide +kernel) ?_)); exact rfl) ?_)
  exact rfl
end Go.Proofs.Ytjhicedblobjfaa
