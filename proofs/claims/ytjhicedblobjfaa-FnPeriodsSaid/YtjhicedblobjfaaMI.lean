/- Steps to roots of one from points of eighths: degree 6, part 0. · Steps to roots of one from points of eighths: degree 6, part 1. -/
import Derived.Test.YtjhicedblobjfaaMK
namespace Go.Proofs.Ytjhicedblobjfaa
open Ieee
set_option maxRecDepth 1000000
set_option maxHeartbeats 40000000
theorem root_row6_0 : allB 33 (gridK (rootsK nearR6 4 (.ofNat 3568119231764899702645714923623737840956866560) (.ofNat 4281743078117879643174857908348485409148239872) 60) 0) = true := by (iterate 33 (refine allB_step _ _ (by decide +kernel) ?_)); exact rfl
theorem root_row6_4 : allB 33 (gridK (rootsK nearR6 4 (.ofNat 3568119231764899702645714923623737840956866560) (.ofNat 4281743078117879643174857908348485409148239872) 60) 4) = true := by (iterate 33 (refine allB_step _ _ (by decide +kernel) ?_)); exact rfl
theorem root_row6_8 : allB 33 (gridK (rootsK nearR6 4 (.ofNat 3568119231764899702645714923623737840956866560) (.ofNat 4281743078117879643174857908348485409148239872) 60) 8) = true := by (iterate 33 (refine allB_step _ _ (by decide +kernel) ?_)); exact rfl
theorem root_row6_12 : allB 33 (gridK (rootsK nearR6 4 (.ofNat 3568119231764899702645714923623737840956866560) (.ofNat 4281743078117879643174857908348485409148239872) 60) 12) = true := by (iterate 33 (refine allB_step _ _ (by decide +kernel) ?_)); exact rfl
theorem root_row6_16 : allB 33 (gridK (rootsK nearR6 4 (.ofNat 3568119231764899702645714923623737840956866560) (.ofNat 4281743078117879643174857908348485409148239872) 60) 16) = true := by (iterate 33 (refine allB_step _ _ (by decide +kernel) ?_)); exact rfl
theorem root_row6_20 : allB 33 (gridK (rootsK nearR6 4 (.ofNat 3568119231764899702645714923623737840956866560) (.ofNat 4281743078117879643174857908348485409148239872) 60) 20) = true := by (iterate 33 (refine allB_step _ _ (by decide +kernel) ?_)); exact rfl
theorem root_row6_24 : allB 33 (gridK (rootsK nearR6 4 (.ofNat 3568119231764899702645714923623737840956866560) (.ofNat 4281743078117879643174857908348485409148239872) 60) 24) = true := by (iterate 33 (refine allB_step _ _ (by decide +kernel) ?_)); exact rfl
theorem root_row6_28 : allB 33 (gridK (rootsK nearR6 4 (.ofNat 3568119231764899702645714923623737840956866560) (.ofNat 4281743078117879643174857908348485409148239872) 60) 28) = true := by (iterate 33 (refine allB_step _ _ (by decide +kernel) ?_)); exact rfl
theorem root_row6_32 : allB 33 (gridK (rootsK nearR6 4 (.ofNat 3568119231764899702645714923623737840956866560) (.ofNat 4281743078117879643174857908348485409148239872) 60) 32) = true := by (iterate 33 (refine allB_step _ _ (by decide +kernel) ?_)); exact rfl
end Go.Proofs.Ytjhicedblobjfaa

namespace Go.Proofs.Ytjhicedblobjfaa
open Ieee
set_option maxRecDepth 1000000
set_option maxHeartbeats 40000000
theorem root_row6_1 : allB 33 (gridK (rootsK nearR6 4 (.ofNat 3568119231764899702645714923623737840956866560) (.ofNat 4281743078117879643174857908348485409148239872) 60) 1) = true := by (iterate 33 (refine allB_step _ _ (by decide +kernel) ?_)); exact rfl
theorem root_row6_5 : allB 33 (gridK (rootsK nearR6 4 (.ofNat 3568119231764899702645714923623737840956866560) (.ofNat 4281743078117879643174857908348485409148239872) 60) 5) = true := by (iterate 33 (refine allB_step _ _ (by decide +kernel) ?_)); exact rfl
theorem root_row6_9 : allB 33 (gridK (rootsK nearR6 4 (.ofNat 3568119231764899702645714923623737840956866560) (.ofNat 4281743078117879643174857908348485409148239872) 60) 9) = true := by (iterate 33 (refine allB_step _ _ (by decide +kernel) ?_)); exact rfl
theorem root_row6_13 : allB 33 (gridK (rootsK nearR6 4 (.ofNat 3568119231764899702645714923623737840956866560) (.ofNat 4281743078117879643174857908348485409148239872) 60) 13) = true := by (iterate 33 (refine allB_step _ _ (by decide +kernel) ?_)); exact rfl
theorem root_row6_17 : allB 33 (gridK (rootsK nearR6 4 (.ofNat 3568119231764899702645714923623737840956866560) (.ofNat 4281743078117879643174857908348485409148239872) 60) 17) = true := by (iterate 33 (refine allB_step _ _ (by decide +kernel) ?_)); exact rfl
theorem root_row6_21 : allB 33 (gridK (rootsK nearR6 4 (.ofNat 3568119231764899702645714923623737840956866560) (.ofNat 4281743078117879643174857908348485409148239872) 60) 21) = true := by (iterate 33 (refine allB_step _ _ (by decide +kernel) ?_)); exact rfl
theorem root_row6_25 : allB 33 (gridK (rootsK nearR6 4 (.ofNat 3568119231764899702645714923623737840956866560) (.ofNat 4281743078117879643174857908348485409148239872) 60) 25) = true := by (iterate 33 (refine allB_step _ _ (by decide +kernel) ?_)); exact rfl
theorem root_row6_29 : allB 33 (gridK (rootsK nearR6 4 (.ofNat 3568119231764899702645714923623737840956866560) (.ofNat 4281743078117879643174857908348485409148239872) 60) 29) = true := by (iterate 33 (refine allB_step _ _ (by decide +kernel) ?_)); exact rfl
end Go.Proofs.Ytjhicedblobjfaa
