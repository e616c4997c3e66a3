/- Steps to roots of one from all points of eighths. -/
import Derived.Test.YtjhicedblobjfaaME
import Derived.Test.YtjhicedblobjfaaMF
import Derived.Test.YtjhicedblobjfaaMH
import Derived.Test.YtjhicedblobjfaaMI
import Derived.Test.YtjhicedblobjfaaMJ
namespace Go.Proofs.Ytjhicedblobjfaa
open Ieee

theorem root_grid2 : allB 33 (fun i => allB 33 (gridK (rootsK nearR2 0 (.ofNat 713623846352979940529142984724747568191373312) (.ofNat 1427247692705959881058285969449495136382746624) 60) i)) = true := by
  refine allB_step _ _ root_row2_32 ?_
  refine allB_step _ _ root_row2_31 ?_
  refine allB_step _ _ root_row2_30 ?_
  refine allB_step _ _ root_row2_29 ?_
  refine allB_step _ _ root_row2_28 ?_
  refine allB_step _ _ root_row2_27 ?_
  refine allB_step _ _ root_row2_26 ?_
  refine allB_step _ _ root_row2_25 ?_
  refine allB_step _ _ root_row2_24 ?_
  refine allB_step _ _ root_row2_23 ?_
  refine allB_step _ _ root_row2_22 ?_
  refine allB_step _ _ root_row2_21 ?_
  refine allB_step _ _ root_row2_20 ?_
  refine allB_step _ _ root_row2_19 ?_
  refine allB_step _ _ root_row2_18 ?_
  refine allB_step _ _ root_row2_17 ?_
  refine allB_step _ _ root_row2_16 ?_
  refine allB_step _ _ root_row2_15 ?_
  refine allB_step _ _ root_row2_14 ?_
  refine allB_step _ _ root_row2_13 ?_
  refine allB_step _ _ root_row2_12 ?_
  refine allB_step _ _ root_row2_11 ?_
  refine allB_step _ _ root_row2_10 ?_
  refine allB_step _ _ root_row2_9 ?_
  refine allB_step _ _ root_row2_8 ?_
  refine allB_step _ _ root_row2_7 ?_
  refine allB_step _ _ root_row2_6 ?_
  refine allB_step _ _ root_row2_5 ?_
  refine allB_step _ _ root_row2_4 ?_
  refine allB_step _ _ root_row2_3 ?_
  refine allB_step _ _ root_row2_2 ?_
  refine allB_step _ _ root_row2_1 ?_
  refine allB_step _ _ root_row2_0 ?_
  exact rfl
theorem ni1_2 : NI (floatOfInt .f32 ((2 : Nat) - 1 : Int)) (.ofNat 713623846352979940529142984724747568191373312) := by
  have e : ((Int.ofNat 713623846352979940529142984724747568191373312 : Int) : Rat) * 2 ^ (-149 : Int) = ((((2 : Nat) : Int) - 1 : Int) : Rat) := by decide +kernel
  have := ofInt_num (k := .f32) (((2 : Nat) : Int) - 1) (by decide)
  unfold NI; rw [e]; exact this
theorem ni0_2 : NI (floatOfInt .f32 ((2 : Nat) : Int)) (.ofNat 1427247692705959881058285969449495136382746624) := by
  have e : ((Int.ofNat 1427247692705959881058285969449495136382746624 : Int) : Rat) * 2 ^ (-149 : Int) = (((2 : Nat) : Int) : Rat) := by decide +kernel
  have := ofInt_num (k := .f32) ((2 : Nat) : Int) (by decide)
  unfold NI; rw [e]; exact this
theorem root_lat2 {z : Nat × Nat} {i j : Int} (h : CI z.1 z.2 (latK i) (latK j)) (i0 : -16 ≤ i) (i1 : i ≤ 16) (j0 : -16 ≤ j) (j1 : j ≤ 16) : RootGood 2 60 z :=
  root_good (n := 2) ni1_2 ni0_2 (by rw [← okK_eq]; kernel_rfl) (by rw [← okK_eq]; kernel_rfl) nearR2_ci 60 h (grid_ok root_grid2 i j i0 i1 j0 j1)

theorem root_grid3 : allB 33 (fun i => allB 33 (gridK (rootsK nearR3 1 (.ofNat 1427247692705959881058285969449495136382746624) (.ofNat 2140871539058939821587428954174242704574119936) 60) i)) = true := by
  refine allB_step _ _ root_row3_32 ?_
  refine allB_step _ _ root_row3_31 ?_
  refine allB_step _ _ root_row3_30 ?_
  refine allB_step _ _ root_row3_29 ?_
  refine allB_step _ _ root_row3_28 ?_
  refine allB_step _ _ root_row3_27 ?_
  refine allB_step _ _ root_row3_26 ?_
  refine allB_step _ _ root_row3_25 ?_
  refine allB_step _ _ root_row3_24 ?_
  refine allB_step _ _ root_row3_23 ?_
  refine allB_step _ _ root_row3_22 ?_
  refine allB_step _ _ root_row3_21 ?_
  refine allB_step _ _ root_row3_20 ?_
  refine allB_step _ _ root_row3_19 ?_
  refine allB_step _ _ root_row3_18 ?_
  refine allB_step _ _ root_row3_17 ?_
  refine allB_step _ _ root_row3_16 ?_
  refine allB_step _ _ root_row3_15 ?_
  refine allB_step _ _ root_row3_14 ?_
  refine allB_step _ _ root_row3_13 ?_
  refine allB_step _ _ root_row3_12 ?_
  refine allB_step _ _ root_row3_11 ?_
  refine allB_step _ _ root_row3_10 ?_
  refine allB_step _ _ root_row3_9 ?_
  refine allB_step _ _ root_row3_8 ?_
  refine allB_step _ _ root_row3_7 ?_
  refine allB_step _ _ root_row3_6 ?_
  refine allB_step _ _ root_row3_5 ?_
  refine allB_step _ _ root_row3_4 ?_
  refine allB_step _ _ root_row3_3 ?_
  refine allB_step _ _ root_row3_2 ?_
  refine allB_step _ _ root_row3_1 ?_
  refine allB_step _ _ root_row3_0 ?_
  exact rfl
theorem ni1_3 : NI (floatOfInt .f32 ((3 : Nat) - 1 : Int)) (.ofNat 1427247692705959881058285969449495136382746624) := by
  have e : ((Int.ofNat 1427247692705959881058285969449495136382746624 : Int) : Rat) * 2 ^ (-149 : Int) = ((((3 : Nat) : Int) - 1 : Int) : Rat) := by decide +kernel
  have := ofInt_num (k := .f32) (((3 : Nat) : Int) - 1) (by decide)
  unfold NI; rw [e]; exact this
theorem ni0_3 : NI (floatOfInt .f32 ((3 : Nat) : Int)) (.ofNat 2140871539058939821587428954174242704574119936) := by
  have e : ((Int.ofNat 2140871539058939821587428954174242704574119936 : Int) : Rat) * 2 ^ (-149 : Int) = (((3 : Nat) : Int) : Rat) := by decide +kernel
  have := ofInt_num (k := .f32) ((3 : Nat) : Int) (by decide)
  unfold NI; rw [e]; exact this
theorem root_lat3 {z : Nat × Nat} {i j : Int} (h : CI z.1 z.2 (latK i) (latK j)) (i0 : -16 ≤ i) (i1 : i ≤ 16) (j0 : -16 ≤ j) (j1 : j ≤ 16) : RootGood 3 60 z :=
  root_good (n := 3) ni1_3 ni0_3 (by rw [← okK_eq]; kernel_rfl) (by rw [← okK_eq]; kernel_rfl) nearR3_ci 60 h (grid_ok root_grid3 i j i0 i1 j0 j1)

theorem root_grid4 : allB 33 (fun i => allB 33 (gridK (rootsK nearR4 2 (.ofNat 2140871539058939821587428954174242704574119936) (.ofNat 2854495385411919762116571938898990272765493248) 60) i)) = true := by
  refine allB_step _ _ root_row4_32 ?_
  refine allB_step _ _ root_row4_31 ?_
  refine allB_step _ _ root_row4_30 ?_
  refine allB_step _ _ root_row4_29 ?_
  refine allB_step _ _ root_row4_28 ?_
  refine allB_step _ _ root_row4_27 ?_
  refine allB_step _ _ root_row4_26 ?_
  refine allB_step _ _ root_row4_25 ?_
  refine allB_step _ _ root_row4_24 ?_
  refine allB_step _ _ root_row4_23 ?_
  refine allB_step _ _ root_row4_22 ?_
  refine allB_step _ _ root_row4_21 ?_
  refine allB_step _ _ root_row4_20 ?_
  refine allB_step _ _ root_row4_19 ?_
  refine allB_step _ _ root_row4_18 ?_
  refine allB_step _ _ root_row4_17 ?_
  refine allB_step _ _ root_row4_16 ?_
  refine allB_step _ _ root_row4_15 ?_
  refine allB_step _ _ root_row4_14 ?_
  refine allB_step _ _ root_row4_13 ?_
  refine allB_step _ _ root_row4_12 ?_
  refine allB_step _ _ root_row4_11 ?_
  refine allB_step _ _ root_row4_10 ?_
  refine allB_step _ _ root_row4_9 ?_
  refine allB_step _ _ root_row4_8 ?_
  refine allB_step _ _ root_row4_7 ?_
  refine allB_step _ _ root_row4_6 ?_
  refine allB_step _ _ root_row4_5 ?_
  refine allB_step _ _ root_row4_4 ?_
  refine allB_step _ _ root_row4_3 ?_
  refine allB_step _ _ root_row4_2 ?_
  refine allB_step _ _ root_row4_1 ?_
  refine allB_step _ _ root_row4_0 ?_
  exact rfl
theorem ni1_4 : NI (floatOfInt .f32 ((4 : Nat) - 1 : Int)) (.ofNat 2140871539058939821587428954174242704574119936) := by
  have e : ((Int.ofNat 2140871539058939821587428954174242704574119936 : Int) : Rat) * 2 ^ (-149 : Int) = ((((4 : Nat) : Int) - 1 : Int) : Rat) := by decide +kernel
  have := ofInt_num (k := .f32) (((4 : Nat) : Int) - 1) (by decide)
  unfold NI; rw [e]; exact this
theorem ni0_4 : NI (floatOfInt .f32 ((4 : Nat) : Int)) (.ofNat 2854495385411919762116571938898990272765493248) := by
  have e : ((Int.ofNat 2854495385411919762116571938898990272765493248 : Int) : Rat) * 2 ^ (-149 : Int) = (((4 : Nat) : Int) : Rat) := by decide +kernel
  have := ofInt_num (k := .f32) ((4 : Nat) : Int) (by decide)
  unfold NI; rw [e]; exact this
theorem root_lat4 {z : Nat × Nat} {i j : Int} (h : CI z.1 z.2 (latK i) (latK j)) (i0 : -16 ≤ i) (i1 : i ≤ 16) (j0 : -16 ≤ j) (j1 : j ≤ 16) : RootGood 4 60 z :=
  root_good (n := 4) ni1_4 ni0_4 (by rw [← okK_eq]; kernel_rfl) (by rw [← okK_eq]; kernel_rfl) nearR4_ci 60 h (grid_ok root_grid4 i j i0 i1 j0 j1)

theorem root_grid5 : allB 33 (fun i => allB 33 (gridK (rootsK nearR5 3 (.ofNat 2854495385411919762116571938898990272765493248) (.ofNat 3568119231764899702645714923623737840956866560) 60) i)) = true := by
  refine allB_step _ _ root_row5_32 ?_
  refine allB_step _ _ root_row5_31 ?_
  refine allB_step _ _ root_row5_30 ?_
  refine allB_step _ _ root_row5_29 ?_
  refine allB_step _ _ root_row5_28 ?_
  refine allB_step _ _ root_row5_27 ?_
  refine allB_step _ _ root_row5_26 ?_
  refine allB_step _ _ root_row5_25 ?_
  refine allB_step _ _ root_row5_24 ?_
  refine allB_step _ _ root_row5_23 ?_
  refine allB_step _ _ root_row5_22 ?_
  refine allB_step _ _ root_row5_21 ?_
  refine allB_step _ _ root_row5_20 ?_
  refine allB_step _ _ root_row5_19 ?_
  refine allB_step _ _ root_row5_18 ?_
  refine allB_step _ _ root_row5_17 ?_
  refine allB_step _ _ root_row5_16 ?_
  refine allB_step _ _ root_row5_15 ?_
  refine allB_step _ _ root_row5_14 ?_
  refine allB_step _ _ root_row5_13 ?_
  refine allB_step _ _ root_row5_12 ?_
  refine allB_step _ _ root_row5_11 ?_
  refine allB_step _ _ root_row5_10 ?_
  refine allB_step _ _ root_row5_9 ?_
  refine allB_step _ _ root_row5_8 ?_
  refine allB_step _ _ root_row5_7 ?_
  refine allB_step _ _ root_row5_6 ?_
  refine allB_step _ _ root_row5_5 ?_
  refine allB_step _ _ root_row5_4 ?_
  refine allB_step _ _ root_row5_3 ?_
  refine allB_step _ _ root_row5_2 ?_
  refine allB_step _ _ root_row5_1 ?_
  refine allB_step _ _ root_row5_0 ?_
  exact rfl
theorem ni1_5 : NI (floatOfInt .f32 ((5 : Nat) - 1 : Int)) (.ofNat 2854495385411919762116571938898990272765493248) := by
  have e : ((Int.ofNat 2854495385411919762116571938898990272765493248 : Int) : Rat) * 2 ^ (-149 : Int) = ((((5 : Nat) : Int) - 1 : Int) : Rat) := by decide +kernel
  have := ofInt_num (k := .f32) (((5 : Nat) : Int) - 1) (by decide)
  unfold NI; rw [e]; exact this
theorem ni0_5 : NI (floatOfInt .f32 ((5 : Nat) : Int)) (.ofNat 3568119231764899702645714923623737840956866560) := by
  have e : ((Int.ofNat 3568119231764899702645714923623737840956866560 : Int) : Rat) * 2 ^ (-149 : Int) = (((5 : Nat) : Int) : Rat) := by decide +kernel
  have := ofInt_num (k := .f32) ((5 : Nat) : Int) (by decide)
  unfold NI; rw [e]; exact this
theorem root_lat5 {z : Nat × Nat} {i j : Int} (h : CI z.1 z.2 (latK i) (latK j)) (i0 : -16 ≤ i) (i1 : i ≤ 16) (j0 : -16 ≤ j) (j1 : j ≤ 16) : RootGood 5 60 z :=
  root_good (n := 5) ni1_5 ni0_5 (by rw [← okK_eq]; kernel_rfl) (by rw [← okK_eq]; kernel_rfl) nearR5_ci 60 h (grid_ok root_grid5 i j i0 i1 j0 j1)

theorem root_grid6 : allB 33 (fun i => allB 33 (gridK (rootsK nearR6 4 (.ofNat 3568119231764899702645714923623737840956866560) (.ofNat 4281743078117879643174857908348485409148239872) 60) i)) = true := by
  refine allB_step _ _ root_row6_32 ?_
  refine allB_step _ _ root_row6_31 ?_
  refine allB_step _ _ root_row6_30 ?_
  refine allB_step _ _ root_row6_29 ?_
  refine allB_step _ _ root_row6_28 ?_
  refine allB_step _ _ root_row6_27 ?_
  refine allB_step _ _ root_row6_26 ?_
  refine allB_step _ _ root_row6_25 ?_
  refine allB_step _ _ root_row6_24 ?_
  refine allB_step _ _ root_row6_23 ?_
  refine allB_step _ _ root_row6_22 ?_
  refine allB_step _ _ root_row6_21 ?_
  refine allB_step _ _ root_row6_20 ?_
  refine allB_step _ _ root_row6_19 ?_
  refine allB_step _ _ root_row6_18 ?_
  refine allB_step _ _ root_row6_17 ?_
  refine allB_step _ _ root_row6_16 ?_
  refine allB_step _ _ root_row6_15 ?_
  refine allB_step _ _ root_row6_14 ?_
  refine allB_step _ _ root_row6_13 ?_
  refine allB_step _ _ root_row6_12 ?_
  refine allB_step _ _ root_row6_11 ?_
  refine allB_step _ _ root_row6_10 ?_
  refine allB_step _ _ root_row6_9 ?_
  refine allB_step _ _ root_row6_8 ?_
  refine allB_step _ _ root_row6_7 ?_
  refine allB_step _ _ root_row6_6 ?_
  refine allB_step _ _ root_row6_5 ?_
  refine allB_step _ _ root_row6_4 ?_
  refine allB_step _ _ root_row6_3 ?_
  refine allB_step _ _ root_row6_2 ?_
  refine allB_step _ _ root_row6_1 ?_
  refine allB_step _ _ root_row6_0 ?_
  exact rfl
theorem ni1_6 : NI (floatOfInt .f32 ((6 : Nat) - 1 : Int)) (.ofNat 3568119231764899702645714923623737840956866560) := by
  have e : ((Int.ofNat 3568119231764899702645714923623737840956866560 : Int) : Rat) * 2 ^ (-149 : Int) = ((((6 : Nat) : Int) - 1 : Int) : Rat) := by decide +kernel
  have := ofInt_num (k := .f32) (((6 : Nat) : Int) - 1) (by decide)
  unfold NI; rw [e]; exact this
theorem ni0_6 : NI (floatOfInt .f32 ((6 : Nat) : Int)) (.ofNat 4281743078117879643174857908348485409148239872) := by
  have e : ((Int.ofNat 4281743078117879643174857908348485409148239872 : Int) : Rat) * 2 ^ (-149 : Int) = (((6 : Nat) : Int) : Rat) := by decide +kernel
  have := ofInt_num (k := .f32) ((6 : Nat) : Int) (by decide)
  unfold NI; rw [e]; exact this
theorem root_lat6 {z : Nat × Nat} {i j : Int} (h : CI z.1 z.2 (latK i) (latK j)) (i0 : -16 ≤ i) (i1 : i ≤ 16) (j0 : -16 ≤ j) (j1 : j ≤ 16) : RootGood 6 60 z :=
  root_good (n := 6) ni1_6 ni0_6 (by rw [← okK_eq]; kernel_rfl) (by rw [← okK_eq]; kernel_rfl) nearR6_ci 60 h (grid_ok root_grid6 i j i0 i1 j0 j1)

end Go.Proofs.Ytjhicedblobjfaa
