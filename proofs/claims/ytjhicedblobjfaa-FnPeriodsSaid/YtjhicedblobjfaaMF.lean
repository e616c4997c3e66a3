/- Steps to roots of one from points of eighths: degree 4, part 0. · Steps to roots of one from points of eighths: degree 4, part 1. · Steps to roots of one from points of eighths: degree 4, part 2. -/
import Derived.Test.YtjhicedblobjfaaMK
namespace Go.Proofs.Ytjhicedblobjfaa
open Ieee
set_option maxRecDepth 1000000
set_option maxHeartbeats 40000000
theorem root_row4_0 : allB 33 (gridK (rootsK nearR4 2 (.ofNat 2140871539058939821587428954174242704574119936) (.ofNat 2854495385411919762116571938898990272765493248) 60) 0) = true := by (iterate 33 (refine allB_step _ _ (by decide +kernel) ?_)); exact rfl
theorem root_row4_3 : allB 33 (gridK (rootsK nearR4 2 (.ofNat 2140871539058939821587428954174242704574119936) (.ofNat 2854495385411919762116571938898990272765493248) 60) 3) = true := by (iterate 33 (refine allB_step _ _ (by decide +kernel) ?_)); exact rfl
theorem root_row4_6 : allB 33 (gridK (rootsK nearR4 2 (.ofNat 2140871539058939821587428954174242704574119936) (.ofNat 2854495385411919762116571938898990272765493248) 60) 6) = true := by (iterate 33 (refine allB_step _ _ (by decide +kernel) ?_)); exact rfl
theorem root_row4_9 : allB 33 (gridK (rootsK nearR4 2 (.ofNat 2140871539058939821587428954174242704574119936) (.ofNat 2854495385411919762116571938898990272765493248) 60) 9) = true := by (iterate 33 (refine allB_step _ _ (by decide +kernel) ?_)); exact rfl
theorem root_row4_12 : allB 33 (gridK (rootsK nearR4 2 (.ofNat 2140871539058939821587428954174242704574119936) (.ofNat 2854495385411919762116571938898990272765493248) 60) 12) = true := by (iterate 33 (refine allB_step _ _ (by decide +kernel) ?_)); exact rfl
theorem root_row4_15 : allB 33 (gridK (rootsK nearR4 2 (.ofNat 2140871539058939821587428954174242704574119936) (.ofNat 2854495385411919762116571938898990272765493248) 60) 15) = true := by (iterate 33 (refine allB_step _ _ (by decide +kernel) ?_)); exact rfl
theorem root_row4_18 : allB 33 (gridK (rootsK nearR4 2 (.ofNat 2140871539058939821587428954174242704574119936) (.ofNat 2854495385411919762116571938898990272765493248) 60) 18) = true := by (iterate 33 (refine allB_step _ _ (by decide +kernel) ?_)); exact rfl
theorem root_row4_21 : allB 33 (gridK (rootsK nearR4 2 (.ofNat 2140871539058939821587428954174242704574119936) (.ofNat 2854495385411919762116571938898990272765493248) 60) 21) = true := by (iterate 33 (refine allB_step _ _ (by decide +kernel) ?_)); exact rfl
theorem root_row4_24 : allB 33 (gridK (rootsK nearR4 2 (.ofNat 2140871539058939821587428954174242704574119936) (.ofNat 2854495385411919762116571938898990272765493248) 60) 24) = true := by (iterate 33 (refine allB_step _ _ (by decide +kernel) ?_)); exact rfl
theorem root_row4_27 : allB 33 (gridK (rootsK nearR4 2 (.ofNat 2140871539058939821587428954174242704574119936) (.ofNat 2854495385411919762116571938898990272765493248) 60) 27) = true := by (iterate 33 (refine allB_step _ _ (by decide +kernel) ?_)); exact rfl
theorem root_row4_30 : allB 33 (gridK (rootsK nearR4 2 (.ofNat 2140871539058939821587428954174242704574119936) (.ofNat 2854495385411919762116571938898990272765493248) 60) 30) = true := by (iterate 33 (refine allB_step _ _ (by decide +kernel) ?_)); exact rfl
end Go.Proofs.Ytjhicedblobjfaa

namespace Go.Proofs.Ytjhicedblobjfaa
open Ieee
set_option maxRecDepth 1000000
set_option maxHeartbeats 40000000
theorem root_row4_1 : allB 33 (gridK (rootsK nearR4 2 (.ofNat 2140871539058939821587428954174242704574119936) (.ofNat 2854495385411919762116571938898990272765493248) 60) 1) = true := by (iterate 33 (refine allB_step _ _ (by decide +kernel) ?_)); exact rfl
theorem root_row4_4 : allB 33 (gridK (rootsK nearR4 2 (.ofNat 2140871539058939821587428954174242704574119936) (.ofNat 2854495385411919762116571938898990272765493248) 60) 4) = true := by (iterate 33 (refine allB_step _ _ (by decide +kernel) ?_)); exact rfl
theorem root_row4_7 : allB 33 (gridK (rootsK nearR4 2 (.ofNat 2140871539058939821587428954174242704574119936) (.ofNat 2854495385411919762116571938898990272765493248) 60) 7) = true := by (iterate 33 (refine allB_step _ _ (by decide +kernel) ?_)); exact rfl
theorem root_row4_10 : allB 33 (gridK (rootsK nearR4 2 (.ofNat 2140871539058939821587428954174242704574119936) (.ofNat 2854495385411919762116571938898990272765493248) 60) 10) = true := by (iterate 33 (refine allB_step _ _ (by decide +kernel) ?_)); exact rfl
theorem root_row4_13 : allB 33 (gridK (rootsK nearR4 2 (.ofNat 2140871539058939821587428954174242704574119936) (.ofNat 2854495385411919762116571938898990272765493248) 60) 13) = true := by (iterate 33 (refine allB_step _ _ (by decide +kernel) ?_)); exact rfl
theorem root_row4_16 : allB 33 (gridK (rootsK nearR4 2 (.ofNat 2140871539058939821587428954174242704574119936) (.ofNat 2854495385411919762116571938898990272765493248) 60) 16) = true := by (iterate 33 (refine allB_step _ _ (by decide +kernel) ?_)); exact rfl
theorem root_row4_19 : allB 33 (gridK (rootsK nearR4 2 (.ofNat 2140871539058939821587428954174242704574119936) (.ofNat 2854495385411919762116571938898990272765493248) 60) 19) = true := by (iterate 33 (refine allB_step _ _ (by decide +kernel) ?_)); exact rfl
theorem root_row4_22 : allB 33 (gridK (rootsK nearR4 2 (.ofNat 2140871539058939821587428954174242704574119936) (.ofNat 2854495385411919762116571938898990272765493248) 60) 22) = true := by (iterate 33 (refine allB_step _ _ (by decide +kernel) ?_)); exact rfl
theorem root_row4_25 : allB 33 (gridK (rootsK nearR4 2 (.ofNat 2140871539058939821587428954174242704574119936) (.ofNat 2854495385411919762116571938898990272765493248) 60) 25) = true := by (iterate 33 (refine allB_step _ _ (by decide +kernel) ?_)); exact rfl
theorem root_row4_28 : allB 33 (gridK (rootsK nearR4 2 (.ofNat 2140871539058939821587428954174242704574119936) (.ofNat 2854495385411919762116571938898990272765493248) 60) 28) = true := by (iterate 33 (refine allB_step _ _ (by decide +kernel) ?_)); exact rfl
theorem root_row4_31 : allB 33 (gridK (rootsK nearR4 2 (.ofNat 2140871539058939821587428954174242704574119936) (.ofNat 2854495385411919762116571938898990272765493248) 60) 31) = true := by (iterate 33 (refine allB_step _ _ (by decide +kernel) ?_)); exact rfl
end Go.Proofs.Ytjhicedblobjfaa

namespace Go.Proofs.Ytjhicedblobjfaa
open Ieee
set_option maxRecDepth 1000000
set_option maxHeartbeats 40000000
theorem root_row4_2 : allB 33 (gridK (rootsK nearR4 2 (.ofNat 2140871539058939821587428954174242704574119936) (.ofNat 2854495385411919762116571938898990272765493248) 60) 2) = true := by (iterate 33 (refine allB_step _ _ (by decide +kernel) ?_)); exact rfl
theorem root_row4_5 : allB 33 (gridK (rootsK nearR4 2 (.ofNat 2140871539058939821587428954174242704574119936) (.ofNat 2854495385411919762116571938898990272765493248) 60) 5) = true := by (iterate 33 (refine allB_step _ _ (by decide +kernel) ?_)); exact rfl
theorem root_row4_8 : allB 33 (gridK (rootsK nearR4 2 (.ofNat 2140871539058939821587428954174242704574119936) (.ofNat 2854495385411919762116571938898990272765493248) 60) 8) = true := by (iterate 33 (refine allB_step _ _ (by decide +kernel) ?_)); exact rfl
theorem root_row4_11 : allB 33 (gridK (rootsK nearR4 2 (.ofNat 2140871539058939821587428954174242704574119936) (.ofNat 2854495385411919762116571938898990272765493248) 60) 11) = true := by (iterate 33 (refine allB_step _ _ (by decide +kernel) ?_)); exact rfl
theorem root_row4_14 : allB 33 (gridK (rootsK nearR4 2 (.ofNat 2140871539058939821587428954174242704574119936) (.ofNat 2854495385411919762116571938898990272765493248) 60) 14) = true := by (iterate 33 (refine allB_step _ _ (by decide +kernel) ?_)); exact rfl
theorem root_row4_17 : allB 33 (gridK (rootsK nearR4 2 (.ofNat 2140871539058939821587428954174242704574119936) (.ofNat 2854495385411919762116571938898990272765493248) 60) 17) = true := by (iterate 33 (refine allB_step _ _ (by decide +kernel) ?_)); exact rfl
theorem root_row4_20 : allB 33 (gridK (rootsK nearR4 2 (.ofNat 2140871539058939821587428954174242704574119936) (.ofNat 2854495385411919762116571938898990272765493248) 60) 20) = true := by (iterate 33 (refine allB_step _ _ (by decide +kernel) ?_)); exact rfl
theorem root_row4_23 : allB 33 (gridK (rootsK nearR4 2 (.ofNat 2140871539058939821587428954174242704574119936) (.ofNat 2854495385411919762116571938898990272765493248) 60) 23) = true := by (iterate 33 (refine allB_step _ _ (by decide +kernel) ?_)); exact rfl
theorem root_row4_26 : allB 33 (gridK (rootsK nearR4 2 (.ofNat 2140871539058939821587428954174242704574119936) (.ofNat 2854495385411919762116571938898990272765493248) 60) 26) = true := by (iterate 33 (refine allB_step _ _ (by decide +kernel) ?_)); exact rfl
theorem root_row4_29 : allB 33 (gridK (rootsK nearR4 2 (.ofNat 2140871539058939821587428954174242704574119936) (.ofNat 2854495385411919762116571938898990272765493248) 60) 29) = true := by (iterate 33 (refine allB_step _ _ (by decide +kernel) ?_)); exact rfl
theorem root_row4_32 : allB 33 (gridK (rootsK nearR4 2 (.ofNat 2140871539058939821587428954174242704574119936) (.ofNat 2854495385411919762116571938898990272765493248) 60) 32) = true := by (iterate 33 (refine allB_step _ _ (by decide +kernel) ?_)); exact rfl
end Go.Proofs.Ytjhicedblobjfaa
