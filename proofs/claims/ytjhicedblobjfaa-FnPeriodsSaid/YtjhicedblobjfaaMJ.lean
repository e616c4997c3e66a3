/- Steps to roots of one from points of eighths: degree 6, part 2. · Steps to roots of one from points of eighths: degree 6, part 3. -/
import Derived.Test.YtjhicedblobjfaaMK
namespace Go.Proofs.Ytjhicedblobjfaa
open Ieee
set_option maxRecDepth 1000000
set_option maxHeartbeats 40000000
theorem root_row6_2 : allB 33 (gridK (rootsK nearR6 4 (.ofNat 3568119231764899702645714923623737840956866560) (.ofNat 4281743078117879643174857908348485409148239872) 60) 2) = true := by (iterate 33 (refine allB_step _ _ (by decide +kernel) ?_)); exact rfl
theorem root_row6_6 : allB 33 (gridK (rootsK nearR6 4 (.ofNat 3568119231764899702645714923623737840956866560) (.ofNat 4281743078117879643174857908348485409148239872) 60) 6) = true := by (iterate 33 (refine allB_step _ _ (by decide +kernel) ?_)); exact rfl
theorem root_row6_10 : allB 33 (gridK (rootsK nearR6 4 (.ofNat 3568119231764899702645714923623737840956866560) (.ofNat 4281743078117879643174857908348485409148239872) 60) 10) = true := by (iterate 33 (refine allB_step _ _ (by decide +kernel) ?_)); exact rfl
theorem root_row6_14 : allB 33 (gridK (rootsK nearR6 4 (.ofNat 3568119231764899702645714923623737840956866560) (.ofNat 4281743078117879643174857908348485409148239872) 60) 14) = true := by (iterate 33 (refine allB_step _ _ (by decide +kernel) ?_)); exact rfl
theorem root_row6_18 : allB 33 (gridK (rootsK nearR6 4 (.ofNat 3568119231764899702645714923623737840956866560) (.ofNat 4281743078117879643174857908348485409148239872) 60) 18) = true := by (iterate 33 (refine allB_step _ _ (by decide +kernel) ?_)); exact rfl
theorem root_row6_22 : allB 33 (gridK (rootsK nearR6 4 (.ofNat 3568119231764899702645714923623737840956866560) (.ofNat 4281743078117879643174857908348485409148239872) 60) 22) = true := by (iterate 33 (refine allB_step _ _ (by decide +kernel) ?_)); exact rfl
theorem root_row6_26 : allB 33 (gridK (rootsK nearR6 4 (.ofNat 3568119231764899702645714923623737840956866560) (.ofNat 4281743078117879643174857908348485409148239872) 60) 26) = true := by (iterate 33 (refine allB_step _ _ (by decide +kernel) ?_)); exact rfl
theorem root_row6_30 : allB 33 (gridK (rootsK nearR6 4 (.ofNat 3568119231764899702645714923623737840956866560) (.ofNat 4281743078117879643174857908348485409148239872) 60) 30) = true := by (iterate 33 (refine allB_step _ _ (by decide +kernel) ?_)); exact rfl
end Go.Proofs.Ytjhicedblobjfaa

namespace Go.Proofs.Ytjhicedblobjfaa
open Ieee
set_option maxRecDepth 1000000
set_option maxHeartbeats 40000000
theorem root_row6_3 : allB 33 (gridK (rootsK nearR6 4 (.ofNat 3568119231764899702645714923623737840956866560) (.ofNat 4281743078117879643174857908348485409148239872) 60) 3) = true := by (iterate 33 (refine allB_step _ _ (by decide +kernel) ?_)); exact rfl
theorem root_row6_7 : allB 33 (gridK (rootsK nearR6 4 (.ofNat 3568119231764899702645714923623737840956866560) (.ofNat 4281743078117879643174857908348485409148239872) 60) 7) = true := by (iterate 33 (refine allB_step _ _ (by decide +kernel) ?_)); exact rfl
theorem root_row6_11 : allB 33 (gridK (rootsK nearR6 4 (.ofNat 3568119231764899702645714923623737840956866560) (.ofNat 4281743078117879643174857908348485409148239872) 60) 11) = true := by (iterate 33 (refine allB_step _ _ (by decide +kernel) ?_)); exact rfl
theorem root_row6_15 : allB 33 (gridK (rootsK nearR6 4 (.ofNat 3568119231764899702645714923623737840956866560) (.ofNat 4281743078117879643174857908348485409148239872) 60) 15) = true := by (iterate 33 (refine allB_step _ _ (by decide +kernel) ?_)); exact rfl
theorem root_row6_19 : allB 33 (gridK (rootsK nearR6 4 (.ofNat 3568119231764899702645714923623737840956866560) (.ofNat 4281743078117879643174857908348485409148239872) 60) 19) = true := by (iterate 33 (refine allB_step _ _ (by decide +kernel) ?_)); exact rfl
theorem root_row6_23 : allB 33 (gridK (rootsK nearR6 4 (.ofNat 3568119231764899702645714923623737840956866560) (.ofNat 4281743078117879643174857908348485409148239872) 60) 23) = true := by (iterate 33 (refine allB_step _ _ (by decide +kernel) ?_)); exact rfl
theorem root_row6_27 : allB 33 (gridK (rootsK nearR6 4 (.ofNat 3568119231764899702645714923623737840956866560) (.ofNat 4281743078117879643174857908348485409148239872) 60) 27) = true := by (iterate 33 (refine allB_step _ _ (by decide +kernel) ?_)); exact rfl
theorem root_row6_31 : allB 33 (gridK (rootsK nearR6 4 (.ofNat 3568119231764899702645714923623737840956866560) (.ofNat 4281743078117879643174857908348485409148239872) 60) 31) = true := by (iterate 33 (refine allB_step _ _ (by decide +kernel) ?_)); exact rfl
end Go.Proofs.Ytjhicedblobjfaa
