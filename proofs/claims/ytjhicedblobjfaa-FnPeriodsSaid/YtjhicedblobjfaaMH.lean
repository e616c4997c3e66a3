/- Steps to roots of one from points of eighths: degree 5, part 0. · Steps to roots of one from points of eighths: degree 5, part 1. · Steps to roots of one from points of eighths: degree 5, part 2. -/
import Derived.Test.YtjhicedblobjfaaMK
namespace Go.Proofs.Ytjhicedblobjfaa
open Ieee
set_option maxRecDepth 1000000
set_option maxHeartbeats 40000000
theorem root_row5_0 : allB 33 (gridK (rootsK nearR5 3 (.ofNat 2854495385411919762116571938898990272765493248) (.ofNat 3568119231764899702645714923623737840956866560) 60) 0) = true := by (iterate 33 (refine allB_step _ _ (by decide +kernel) ?_)); exact rfl
theorem root_row5_3 : allB 33 (gridK (rootsK nearR5 3 (.ofNat 2854495385411919762116571938898990272765493248) (.ofNat 3568119231764899702645714923623737840956866560) 60) 3) = true := by (iterate 33 (refine allB_step _ _ (by decide +kernel) ?_)); exact rfl
theorem root_row5_6 : allB 33 (gridK (rootsK nearR5 3 (.ofNat 2854495385411919762116571938898990272765493248) (.ofNat 3568119231764899702645714923623737840956866560) 60) 6) = true := by (iterate 33 (refine allB_step _ _ (by decide +kernel) ?_)); exact rfl
theorem root_row5_9 : allB 33 (gridK (rootsK nearR5 3 (.ofNat 2854495385411919762116571938898990272765493248) (.ofNat 3568119231764899702645714923623737840956866560) 60) 9) = true := by (iterate 33 (refine allB_step _ _ (by decide +kernel) ?_)); exact rfl
theorem root_row5_12 : allB 33 (gridK (rootsK nearR5 3 (.ofNat 2854495385411919762116571938898990272765493248) (.ofNat 3568119231764899702645714923623737840956866560) 60) 12) = true := by (iterate 33 (refine allB_step _ _ (by decide +kernel) ?_)); exact rfl
theorem root_row5_15 : allB 33 (gridK (rootsK nearR5 3 (.ofNat 2854495385411919762116571938898990272765493248) (.ofNat 3568119231764899702645714923623737840956866560) 60) 15) = true := by (iterate 33 (refine allB_step _ _ (by decide +kernel) ?_)); exact rfl
theorem root_row5_18 : allB 33 (gridK (rootsK nearR5 3 (.ofNat 2854495385411919762116571938898990272765493248) (.ofNat 3568119231764899702645714923623737840956866560) 60) 18) = true := by (iterate 33 (refine allB_step _ _ (by decide +kernel) ?_)); exact rfl
theorem root_row5_21 : allB 33 (gridK (rootsK nearR5 3 (.ofNat 2854495385411919762116571938898990272765493248) (.ofNat 3568119231764899702645714923623737840956866560) 60) 21) = true := by (iterate 33 (refine allB_step _ _ (by decide +kernel) ?_)); exact rfl
theorem root_row5_24 : allB 33 (gridK (rootsK nearR5 3 (.ofNat 2854495385411919762116571938898990272765493248) (.ofNat 3568119231764899702645714923623737840956866560) 60) 24) = true := by (iterate 33 (refine allB_step _ _ (by decide +kernel) ?_)); exact rfl
theorem root_row5_27 : allB 33 (gridK (rootsK nearR5 3 (.ofNat 2854495385411919762116571938898990272765493248) (.ofNat 3568119231764899702645714923623737840956866560) 60) 27) = true := by (iterate 33 (refine allB_step _ _ (by decide +kernel) ?_)); exact rfl
theorem root_row5_30 : allB 33 (gridK (rootsK nearR5 3 (.ofNat 2854495385411919762116571938898990272765493248) (.ofNat 3568119231764899702645714923623737840956866560) 60) 30) = true := by (iterate 33 (refine allB_step _ _ (by decide +kernel) ?_)); exact rfl
end Go.Proofs.Ytjhicedblobjfaa

namespace Go.Proofs.Ytjhicedblobjfaa
open Ieee
set_option maxRecDepth 1000000
set_option maxHeartbeats 40000000
theorem root_row5_1 : allB 33 (gridK (rootsK nearR5 3 (.ofNat 2854495385411919762116571938898990272765493248) (.ofNat 3568119231764899702645714923623737840956866560) 60) 1) = true := by (iterate 33 (refine allB_step _ _ (by decide +kernel) ?_)); exact rfl
theorem root_row5_4 : allB 33 (gridK (rootsK nearR5 3 (.ofNat 2854495385411919762116571938898990272765493248) (.ofNat 3568119231764899702645714923623737840956866560) 60) 4) = true := by (iterate 33 (refine allB_step _ _ (by decide +kernel) ?_)); exact rfl
theorem root_row5_7 : allB 33 (gridK (rootsK nearR5 3 (.ofNat 2854495385411919762116571938898990272765493248) (.ofNat 3568119231764899702645714923623737840956866560) 60) 7) = true := by (iterate 33 (refine allB_step _ _ (by decide +kernel) ?_)); exact rfl
theorem root_row5_10 : allB 33 (gridK (rootsK nearR5 3 (.ofNat 2854495385411919762116571938898990272765493248) (.ofNat 3568119231764899702645714923623737840956866560) 60) 10) = true := by (iterate 33 (refine allB_step _ _ (by decide +kernel) ?_)); exact rfl
theorem root_row5_13 : allB 33 (gridK (rootsK nearR5 3 (.ofNat 2854495385411919762116571938898990272765493248) (.ofNat 3568119231764899702645714923623737840956866560) 60) 13) = true := by (iterate 33 (refine allB_step _ _ (by decide +kernel) ?_)); exact rfl
theorem root_row5_16 : allB 33 (gridK (rootsK nearR5 3 (.ofNat 2854495385411919762116571938898990272765493248) (.ofNat 3568119231764899702645714923623737840956866560) 60) 16) = true := by (iterate 33 (refine allB_step _ _ (by decide +kernel) ?_)); exact rfl
theorem root_row5_19 : allB 33 (gridK (rootsK nearR5 3 (.ofNat 2854495385411919762116571938898990272765493248) (.ofNat 3568119231764899702645714923623737840956866560) 60) 19) = true := by (iterate 33 (refine allB_step _ _ (by decide +kernel) ?_)); exact rfl
theorem root_row5_22 : allB 33 (gridK (rootsK nearR5 3 (.ofNat 2854495385411919762116571938898990272765493248) (.ofNat 3568119231764899702645714923623737840956866560) 60) 22) = true := by (iterate 33 (refine allB_step _ _ (by decide +kernel) ?_)); exact rfl
theorem root_row5_25 : allB 33 (gridK (rootsK nearR5 3 (.ofNat 2854495385411919762116571938898990272765493248) (.ofNat 3568119231764899702645714923623737840956866560) 60) 25) = true := by (iterate 33 (refine allB_step _ _ (by decide +kernel) ?_)); exact rfl
theorem root_row5_28 : allB 33 (gridK (rootsK nearR5 3 (.ofNat 2854495385411919762116571938898990272765493248) (.ofNat 3568119231764899702645714923623737840956866560) 60) 28) = true := by (iterate 33 (refine allB_step _ _ (by decide +kernel) ?_)); exact rfl
theorem root_row5_31 : allB 33 (gridK (rootsK nearR5 3 (.ofNat 2854495385411919762116571938898990272765493248) (.ofNat 3568119231764899702645714923623737840956866560) 60) 31) = true := by (iterate 33 (refine allB_step _ _ (by decide +kernel) ?_)); exact rfl
end Go.Proofs.Ytjhicedblobjfaa

namespace Go.Proofs.Ytjhicedblobjfaa
open Ieee
set_option maxRecDepth 1000000
set_option maxHeartbeats 40000000
theorem root_row5_2 : allB 33 (gridK (rootsK nearR5 3 (.ofNat 2854495385411919762116571938898990272765493248) (.ofNat 3568119231764899702645714923623737840956866560) 60) 2) = true := by (iterate 33 (refine allB_step _ _ (by decide +kernel) ?_)); exact rfl
theorem root_row5_5 : allB 33 (gridK (rootsK nearR5 3 (.ofNat 2854495385411919762116571938898990272765493248) (.ofNat 3568119231764899702645714923623737840956866560) 60) 5) = true := by (iterate 33 (refine allB_step _ _ (by decide +kernel) ?_)); exact rfl
theorem root_row5_8 : allB 33 (gridK (rootsK nearR5 3 (.ofNat 2854495385411919762116571938898990272765493248) (.ofNat 3568119231764899702645714923623737840956866560) 60) 8) = true := by (iterate 33 (refine allB_step _ _ (by decide +kernel) ?_)); exact rfl
theorem root_row5_11 : allB 33 (gridK (rootsK nearR5 3 (.ofNat 2854495385411919762116571938898990272765493248) (.ofNat 3568119231764899702645714923623737840956866560) 60) 11) = true := by (iterate 33 (refine allB_step _ _ (by decide +kernel) ?_)); exact rfl
theorem root_row5_14 : allB 33 (gridK (rootsK nearR5 3 (.ofNat 2854495385411919762116571938898990272765493248) (.ofNat 3568119231764899702645714923623737840956866560) 60) 14) = true := by (iterate 33 (refine allB_step _ _ (by decide +kernel) ?_)); exact rfl
theorem root_row5_17 : allB 33 (gridK (rootsK nearR5 3 (.ofNat 2854495385411919762116571938898990272765493248) (.ofNat 3568119231764899702645714923623737840956866560) 60) 17) = true := by (iterate 33 (refine allB_step _ _ (by decide +kernel) ?_)); exact rfl
theorem root_row5_20 : allB 33 (gridK (rootsK nearR5 3 (.ofNat 2854495385411919762116571938898990272765493248) (.ofNat 3568119231764899702645714923623737840956866560) 60) 20) = true := by (iterate 33 (refine allB_step _ _ (by decide +kernel) ?_)); exact rfl
theorem root_row5_23 : allB 33 (gridK (rootsK nearR5 3 (.ofNat 2854495385411919762116571938898990272765493248) (.ofNat 3568119231764899702645714923623737840956866560) 60) 23) = true := by (iterate 33 (refine allB_step _ _ (by decide +kernel) ?_)); exact rfl
theorem root_row5_26 : allB 33 (gridK (rootsK nearR5 3 (.ofNat 2854495385411919762116571938898990272765493248) (.ofNat 3568119231764899702645714923623737840956866560) 60) 26) = true := by (iterate 33 (refine allB_step _ _ (by decide +kernel) ?_)); exact rfl
theorem root_row5_29 : allB 33 (gridK (rootsK nearR5 3 (.ofNat 2854495385411919762116571938898990272765493248) (.ofNat 3568119231764899702645714923623737840956866560) 60) 29) = true := by (iterate 33 (refine allB_step _ _ (by decide +kernel) ?_)); exact rfl
theorem root_row5_32 : allB 33 (gridK (rootsK nearR5 3 (.ofNat 2854495385411919762116571938898990272765493248) (.ofNat 3568119231764899702645714923623737840956866560) 60) 32) = true := by (iterate 33 (refine allB_step _ _ (by decide +kernel) ?_)); exact rfl
end Go.Proofs.Ytjhicedblobjfaa
