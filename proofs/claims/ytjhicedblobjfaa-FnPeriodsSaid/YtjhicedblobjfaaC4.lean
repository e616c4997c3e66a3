/- The law FnPeriods: the walk. -/
import Derived.Test.YtjhicedblobjfaaQ1
import Derived.BigQuiet
import Derived.StillTailTactics
import Derived.Deep.DeepCutAuto
import Derived.Deep.RegionWith
import Derived.Deep.RegionHeld3
import Derived.BigRegion
import Derived.IntWalk
namespace Go.Proofs.Ytjhicedblobjfaa
open Go.RowKit Ieee

section
set_option maxHeartbeats 0
set_option maxRecDepth 100000

theorem lat0 : LatC 0 0 := by
  have e : ((0 : Int) : Rat) / 8 = 0 := by decide +kernel
  have h : Lat 0 0 := ⟨by decide, by decide, (by rw [e]; exact num0)⟩
  exact ⟨0, 0, h, h⟩

theorem fnPeriods_any (m n : Nat) (v v' : Value) (w : World) (hm : CodeIs w w.heap.size v m) (hn : CodeIs w w.heap.size v' n) :
    Calls Try.prog 3 #[v, v'] w fun e w' => e = .returned (.bool true) ∧ Below w.heap.size w w' := by
  have M0 := Lib.hid hm
  have N0 := Lib.hid hn
  have R0 := Lib.hid (show ∀ (a : Option Addr) (c : Nat) (b : Option Addr) (d : Nat) (w : World), v = .slice a m c → v' = .slice b n d → Calls Try.prog 7 #[.slice a m c, .slice b n d] w fun e w' => e = .returned (.bool false) ∧ w = w' from
    fun a c b d w _ _ => r8Long_no a b m n c d w hm.1 hn.1)
  have hv : ∃ a cap, v = .slice a m cap := by obtain ⟨_, a, cap, hv, _⟩ := hm; exact ⟨a, cap, hv⟩
  have hv' : ∃ a cap, v' = .slice a n cap := by obtain ⟨_, a, cap, hv, _⟩ := hn; exact ⟨a, cap, hv⟩
  obtain ⟨a1, c1, rfl⟩ := hv
  obtain ⟨a2, c2, rfl⟩ := hv'
  clear hm hn
  go_enter Try.func3, Try.ntmps3
  go_wp2_with fail
  refine (R0.out _ _ _ _ _ rfl rfl).mono ?_
  rintro e w1 ⟨rfl, rfl⟩
  clear R0
  go_wp2_with fail
  refine (r8At_any 0 4 (by decide) (by decide) (by decide) (by decide) _ n _ _ N0.out).mono ?_
  rintro e w1 ⟨k, rfl, hk0, hk4, rfl⟩
  go_wp2_with fail
  refine (r8Point_any m _ _ M0.out).mono ?_
  rintro e w1 ⟨ca, cb, rfl, hc, hb1⟩
  have M1 := Lib.hid (codeIs_mono (codeIs_below M0.out hb1) hb1.size)
  have N1 := Lib.hid (codeIs_mono (codeIs_below N0.out hb1) hb1.size)
  have HC := Lib.hid (show LatC ca cb from hc)
  have BW1 := hb1
  clear hc hb1 M0 N0
  have hk3 : k ≤ 3 := by omega
  as_aux_lemma =>
  go_wp2_with fail
  have hba : Below w1.heap.size w1 (w1.alloc (.cells #[.int .i64 k, .complex .f32 ca cb] 28)) := (Below.refl _ _).alloc (Nat.le_refl _) _
  refine (period_calls hk0 hk3 HC.out _).mono ?_
  rintro e w2 ⟨b, p, L, rfl, hp, HG, hb2⟩
  have hc0 : w2.cell? ⟨w1.heap.size, 0, none⟩ = some (.int .i64 k) := by rw [(bcell hb2).1 _ _ (by simp)]; simp
  have hc1 : w2.cell? ⟨w1.heap.size, 1, none⟩ = some (.complex .f32 ca cb) := by rw [(bcell hb2).1 _ _ (by simp)]; simp
  have hs2 : w1.heap.size < w2.heap.size := by have := hb2.size; simp at this; omega
  have hb12 : Below w1.heap.size w1 w2 := hba.trans (hb2.mono (by simp))
  have M2 := Lib.hid (codeIs_mono (codeIs_below M1.out hb12) (show w1.heap.size ≤ w2.heap.size by omega))
  have N2 := Lib.hid (codeIs_mono (codeIs_below N1.out hb12) (show w1.heap.size ≤ w2.heap.size by omega))
  have BW2 : Below w.heap.size w w2 := BW1.trans (hb12.mono BW1.size)
  clear hba hb2 hb12 M1 N1
  obtain ⟨q, hq⟩ : ∃ q, q = w1.heap.size := ⟨_, rfl⟩
  rw [← hq] at hc0 hc1 hs2
  rw [← hq]
  clear hq BW1
  as_aux_lemma =>
  go_upto_if 50 with fail
  go_cut [] (fun wx => Below w2.heap.size w2 wx)
  case first =>
    --[[
    as_aux_lemma =>
    cases b
    · go_wp2_with fail
      go_meet
      exact Below.refl _ _
    · have G := HG.out rfl
      have hp1 := G.pos
      have sc := latC_small HC.out
      obtain ⟨nn, hnn⟩ : ∃ nn, nn = 4 + p + 1 := ⟨_, rfl⟩
      have hn5 : (nn : Int) = 5 + (p : Int) := by omega
      have HO : Hid (∀ w, Calls Try.prog 11 #[.agg #[.int .i64 k, .complex .f32 ca cb], .complex .f32 0 0, .int .i64 (5 + (p : Int))] w fun e w' =>
          ∃ g cap, e = .returned (.tuple #[.slice (some ⟨g, 0, none⟩) nn cap, .bool true]) ∧ w.heap.size ≤ g ∧ g < w'.heap.size ∧ nn ≤ cap ∧ cap ≤ maxLen ∧
            (∀ j, j ≤ 4 + p → w'.cell? ⟨g, j, none⟩ = some (cv (L.getD j (0, 0)))) ∧ Below w.heap.size w w') := fun w => by
        have := orbitOf_any k hk0 hk3 ca cb 0 0 (4 + p) (by omega) L w sc small0 G.orb
        have e : ((4 + p : Nat) : Int) + 1 = 5 + (p : Int) := by omega
        rw [e, ← hnn] at this; exact this
      have G := Lib.hid G
      clear HG sc
      go_wp2_with fail
      refine (HO.out _).mono ?_
      rintro e w3 ⟨g, cap, rfl, hg0, hg1, hcap0, hcap1, hcells, hb⟩
      have CELLS := Lib.hid hcells
      have HB := Lib.hid hb
      clear hcells hc0 hc1 hg0 HO hb
      obtain ⟨z4, hz4⟩ : ∃ z, z = L.getD 4 (0, 0) := ⟨_, rfl⟩
      obtain ⟨zp, hzp⟩ : ∃ z, z = L.getD (4 + p) (0, 0) := ⟨_, rfl⟩
      obtain ⟨i, hi⟩ : ∃ i, i = 4 + p := ⟨_, rfl⟩
      have hcell4 : w3.cell? ⟨g, 4, none⟩ = some (.complex .f32 z4.1 z4.2) := by rw [CELLS.out 4 (by omega), hz4]; rfl
      have hcellp : w3.cell? ⟨g, i, none⟩ = some (.complex .f32 zp.1 zp.2) := by rw [hi, CELLS.out (4 + p) (by omega), hzp]; rfl
      obtain ⟨e1, e2, l, hs, hl, hle⟩ := dist_yes G.out.at'
      rw [← hzp, ← hz4] at hs
      have HL := Lib.hid (fun w => longOf_any e1 e2 l w hl)
      have hgt := le32_ngt hle
      have hi1 : (i : Int) < (nn : Int) := by omega
      have hi2 : i < nn := by omega
      have hi3 : (4 : Int) < (nn : Int) := by omega
      have hij : 4 + (p : Int) = (i : Int) := by omega
      have hw1 : IntKind.i64.wrap (4 + (p : Int)) = (i : Int) := by rw [hij]; exact IntWalk.i64_in _ (by omega)
      have hw2 : IntKind.i64.wrap (i : Int) = (i : Int) := IntWalk.i64_in _ (by omega)
      have HZ4 := Lib.hid hz4
      clear hl hle hz4 hzp hnn hi
      have hp12 : (p : Int) ≤ 12 := by omega
      have hpp : (1 : Int) ≤ (p : Int) := by omega
      go_upto_region 7 with fail
      go_cut [87] (fun s wx => s = .bool false ∧ Below w3.heap.size w3 wx)
      case first =>
        as_aux_lemma =>
        have hi0 : (0 : Int) ≤ (i : Int) := by omega
        have t1 : decide ((p : Int) < 1) = false := by simp; omega
        have t2 : decide ((12 : Int) < (p : Int)) = false := by simp; omega
        have hn5' : 5 + (p : Int) = (nn : Int) := by omega
        have hw3 : IntKind.i64.wrap (5 + (p : Int)) = (nn : Int) := by rw [hn5']; exact IntWalk.i64_in _ (by omega)
        have hw4 : IntKind.i64.wrap (nn : Int) = (nn : Int) := IntWalk.i64_in _ (by omega)
        clear hn5
        go_region_held3 (fun w' => w'.cell? ⟨g, i, none⟩ = some (.complex .f32 zp.1 zp.2) ∧ w'.cell? ⟨g, 4, none⟩ = some (.complex .f32 z4.1 z4.2)) (go_keep) (first | (go_at_call 12; refine (HL.out _).mono ?_; rintro e w' ⟨rfl, rfl⟩))
        all_goals go_wp2_with fail
        all_goals go_meet
        all_goals exact ⟨rfl, ⟨rfl, rfl, rfl, Nat.le_refl _, fun _ _ => rfl⟩⟩
      case rest =>
        obtain ⟨rfl, hb3⟩ := hcut
        clear HL hgt hcellp hs hi1 hi2 hij hw1 hw2
        as_aux_lemma =>
        go_wp2_with fail
        go_loopw [10] (fun kk wr => ∃ t : Nat, 1 ≤ t ∧ t ≤ p ∧ kk = .int .i64 t ∧ Below w3.heap.size w3 wr) (fun kk _ => p - (intOf kk).toNat)
        case atStart => exact ⟨1, by omega, by omega, rfl, hb3⟩
        case round =>
          obtain ⟨t, ht1, htp, rfl, hbr⟩ := hrel
          as_aux_lemma =>
          by_cases hlt : t < p
          · obtain ⟨zt, hzt⟩ : ∃ z, z = L.getD (4 + t) (0, 0) := ⟨_, rfl⟩
            obtain ⟨i, hi⟩ : ∃ i, i = 4 + t := ⟨_, rfl⟩
            have hr4 : wr.cell? ⟨g, 4, none⟩ = some (.complex .f32 z4.1 z4.2) := by rw [(bcell hbr).1 _ _ hg1]; exact hcell4
            have hrt : wr.cell? ⟨g, i, none⟩ = some (.complex .f32 zt.1 zt.2) := by rw [(bcell hbr).1 _ _ hg1, hi, CELLS.out (4 + t) (by omega), hzt]; rfl
            obtain ⟨e1, e2, l, hs, hl, hle⟩ := dist_no (G.out.far t ht1 hlt)
            rw [← hzt, ← HZ4.out] at hs
            have HL := Lib.hid (fun w => longOf_any e1 e2 l w hl)
            unfold le32 at hle
            have hi0 : (0 : Int) ≤ (i : Int) := by omega
            have hi1 : (i : Int) < (nn : Int) := by omega
            have hi2 : i < nn := by omega
            have hij : 4 + (t : Int) = (i : Int) := by omega
            have hw1 : IntKind.i64.wrap (4 + (t : Int)) = (i : Int) := by rw [hij]; exact IntWalk.i64_in _ (by omega)
            have hw2 : IntKind.i64.wrap (i : Int) = (i : Int) := IntWalk.i64_in _ (by omega)
            have hbs := hbr.size
            clear hl hzt hi hcell4 hn5
            go_upto_region 12 with fail
            go_cut [103] from 88 to 103 (fun s wx => s = .bool false ∧ Below wr.heap.size wr wx)
            case first =>
              as_aux_lemma =>
              go_region_held3 (fun w' => w'.cell? ⟨g, i, none⟩ = some (.complex .f32 zt.1 zt.2) ∧ w'.cell? ⟨g, 4, none⟩ = some (.complex .f32 z4.1 z4.2)) (go_keep) (first | (go_at_call 12; refine (HL.out _).mono ?_; rintro e w' ⟨rfl, rfl⟩))
              all_goals go_wp2_with fail
              all_goals go_meet
              all_goals exact ⟨rfl, ⟨rfl, rfl, rfl, Nat.le_refl _, fun _ _ => rfl⟩⟩
            case rest =>
              obtain ⟨rfl, hb4⟩ := hcut
              clear hr4 hrt HL hle hs hij hw1 hw2 hi0 hi1 hi2
              go_wp2_with fail
              go_roundw
              case rel => exact ⟨t + 1, by omega, by omega, by go_num, hbr.trans (hb4.mono hbs)⟩
              case measure => simp [intOf]; omega
          · have htp' : t = p := by omega
            subst htp'
            have hfin : Below w2.heap.size w2 wr := HB.out.trans (hbr.mono HB.out.size)
            clear hbr hcell4
            go_wp2_with fail
            go_meet
            exact hfin
    --]]
  case rest =>
    have M3 := Lib.hid (codeIs_mono (codeIs_below M2.out hcut) hcut.size)
    have N3 := Lib.hid (codeIs_mono (codeIs_below N2.out hcut) hcut.size)
    have BW3 := BW2.trans (hcut.mono BW2.size)
    clear M2 N2 BW2 hcut HG hc0 hc1 hs2 hp HC hk0 hk3 hk4
    as_aux_lemma =>
    go_wp2_with fail
    refine (r8At_any 1 5 (by decide) (by decide) (by decide) (by decide) _ n _ _ N3.out).mono ?_
    rintro e w4 ⟨nv, rfl, hn0, hn1, rfl⟩
    obtain ⟨nn, hnn⟩ : ∃ nn : Nat, (nn : Int) = 2 + nv := ⟨(2 + nv).toNat, by omega⟩
    have hn2 : 2 ≤ nn := by omega
    have hn6 : nn ≤ 6 := by omega
    go_wp2_with fail
    refine (r8Point_any n _ _ N3.out).mono ?_
    rintro e w4 ⟨a, b, rfl, hz, hb1⟩
    have M4 := Lib.hid (codeIs_mono (codeIs_below M3.out hb1) hb1.size)
    have BW4 := BW3.trans (hb1.mono BW3.size)
    have HZ := Lib.hid (show LatC a b from hz)
    clear M3 N3 BW3 hb1 hz
    have HR := Lib.hid (fun w => root_calls hn2 hn6 HZ.out w)
    rw [hnn] at HR
    as_aux_lemma =>
    go_wp2_with fail
    refine (HR.out _).mono ?_
    rintro e w5 ⟨t3, kr, jr, LR, rfl, hjr, HH, hb2⟩
    have M5 := Lib.hid (codeIs_mono (codeIs_below M4.out hb2) hb2.size)
    have BW5 := BW4.trans (hb2.mono BW4.size)
    clear M4 BW4 hb2 HR
    go_upto_if 116 with fail
    go_cut [] (fun wx => Below w5.heap.size w5 wx)
    case first =>
      --[[
      as_aux_lemma =>
      cases t3
      · go_wp2_with fail
        go_meet
        exact Below.refl _ _
      · have H := HH.out rfl
        have hkr : (kr : Int) < 2 + nv := by have := H.lt; omega
        have hjr2 : (jr : Int) ≤ 60 := by omega
        have H := Lib.hid H
        obtain ⟨t, e1, e2, l, W, k1, K2, k3, K4, k5, k6⟩ := hit_end hn2 hn6 H.out
        rw [hnn] at k1
        have K1 := Lib.hid k1
        have K2 := Lib.hid K2
        have K3 := Lib.hid k3
        have K4 := Lib.hid K4
        have K5 := Lib.hid (And.intro k5 k6)
        clear HH k1 k3 k5 k6
        go_wp2_with fail
        go_loop [16, 17] (fun zz ii => ∃ (i : Nat) (y : Nat × Nat), i ≤ jr ∧ ii = .int .i64 i ∧ zz = .complex .f32 y.1 y.2 ∧ Hid (y = LR.getD i (0, 0))) (fun _ ii => jr - (intOf ii).toNat)
        case atStart => exact ⟨0, (a, b), by omega, rfl, rfl, (H.out.orb.first).symm⟩
        case round =>
          obtain ⟨i, y, hi, rfl, rfl, HY⟩ := hrel
          as_aux_lemma =>
          by_cases hlt : i < jr
          · have HS := Lib.hid (fun w => hit_step hn2 hn6 H.out hlt w)
            obtain ⟨y', hy'⟩ : ∃ y', y' = LR.getD (i + 1) (0, 0) := ⟨_, rfl⟩
            rw [hnn, ← HY.out, ← hy'] at HS
            have HY2 := Lib.hid hy'
            clear hy'
            go_wp2_with fail
            refine (HS.out _).mono ?_
            rintro e w6 ⟨rfl, rfl⟩
            go_wp2_with fail
            go_round
            case rel => exact ⟨i + 1, y', by omega, by go_num, rfl, HY2⟩
            case measure => simp [intOf]; omega
          · have hij : i = jr := by omega
            subst hij
            have k1 := K1.out
            have k3 := K3.out
            rw [← HY.out] at k3
            have k5 := K5.out.1
            have k6 := K5.out.2
            clear hlt hi
            go_wp2_with fail
            refine (K2.out _).mono ?_
            rintro e w6 ⟨rfl, rfl⟩
            go_wp2_with fail
            refine (K4.out _).mono ?_
            rintro e w6 ⟨rfl, rfl⟩
            go_wp2_with fail
            go_meet
            exact Below.refl _ _
      --]]
    case rest =>
      have M6 := Lib.hid (codeIs_mono (codeIs_below M5.out hcut) hcut.size)
      have BW6 := BW5.trans (hcut.mono BW5.size)
      obtain ⟨ts, s1, S2, S3⟩ := start_calls hn2 hn6
      rw [hnn] at s1 S3
      have S2 := Lib.hid S2
      have S3 := Lib.hid S3
      clear M5 BW5 hcut HH hjr
      --[[
      as_aux_lemma =>
      go_wp2_with fail
      refine (S2.out _).mono ?_
      rintro e w7 ⟨rfl, rfl⟩
      go_wp2_with fail
      refine (S3.out _).mono ?_
      rintro e w7 ⟨rfl, hb⟩
      have M7 := Lib.hid (codeIs_mono (codeIs_below M6.out hb) hb.size)
      have BW7 := BW6.trans (hb.mono BW6.size)
      clear M6 BW6 hb s1 S2 S3
      go_wp2_with fail
      refine (r8Point_any m _ _ M7.out).mono ?_
      rintro e w8 ⟨ea, eb, rfl, hc', hb⟩
      have BW8 := BW7.trans (hb.mono BW7.size)
      have HC2 := Lib.hid (show LatC ea eb from hc')
      clear M7 BW7 hb hc'
      obtain ⟨d, L, hG⟩ := esc_lat (k := 0) (by decide) (by decide) HC2.out lat0 12 0
      have hd12 := hG.le
      have hesc := hG.esc
      rw [Nat.zero_add] at hesc
      have sc := latC_small HC2.out
      have HE := Lib.hid (fun w => escapeOf_any 0 (by decide) (by decide) ea eb 0 0 12 (by decide) _ w sc small0 hesc)
      obtain ⟨mm, hm1, hm2, hm3, hm4⟩ : ∃ mm, mm ≤ d ∧ d ≤ mm + 1 ∧ (d < mm + 1 → d < 12) ∧ mm ≤ 11 ∧ min ((d : Int) + 1) 12 = (mm : Int) + 1 := by
        by_cases h : d = 12
        · exact ⟨11, by omega, by omega, by omega, by omega, by omega⟩
        · exact ⟨d, by omega, by omega, by omega, by omega, by omega⟩
      obtain ⟨hm4, hmin⟩ := hm4
      have HF := Lib.hid (first_out (k := 0) (by decide) (by decide) HC2.out hG hm1 hm2 hm3)
      obtain ⟨LT, hLT⟩ : ∃ LT, LT = L.take (mm + 1) := ⟨_, rfl⟩
      have HO : Hid (∀ x : Int, x = (mm : Int) + 1 → ∀ w, Calls Try.prog 11 #[.agg #[.int .i64 0, .complex .f32 ea eb], .complex .f32 0 0, .int .i64 x] w fun e w' =>
          ∃ g cap, e = .returned (.tuple #[.slice (some ⟨g, 0, none⟩) (mm + 1) cap, .bool true]) ∧ w.heap.size ≤ g ∧ g < w'.heap.size ∧ mm + 1 ≤ cap ∧ cap ≤ maxLen ∧
            (∀ j, j ≤ mm → w'.cell? ⟨g, j, none⟩ = some (cv (LT.getD j (0, 0)))) ∧ Below w.heap.size w w') := fun x hx w => by
        rw [hx]
        exact orbitOf_any 0 (by decide) (by decide) ea eb 0 0 mm (by omega) LT w sc small0 (by rw [hLT]; exact (orb_take hG.orb hm1).1)
      rw [← hLT] at HF
      have hmin2 : min (d : Int) ((mm : Int) + 1) = (d : Int) := by omega
      clear hG hesc sc hLT
      as_aux_lemma =>
      go_wp2_with fail
      refine (HE.out _).mono ?_
      rintro e w9 ⟨rfl, hb⟩
      have hq0 : w9.cell? ⟨w8.heap.size, 0, none⟩ = some (.int .i64 0) := by rw [(bcell hb).1 _ _ (by simp)]; simp
      have hq1 : w9.cell? ⟨w8.heap.size, 1, none⟩ = some (.complex .f32 ea eb) := by rw [(bcell hb).1 _ _ (by simp)]; simp
      have hs9 : w8.heap.size < w9.heap.size := by have := hb.size; simp at this; omega
      have BW9 : Below w.heap.size w w9 := (BW8.alloc BW8.size _).trans (hb.mono (by have := BW8.size; simp; omega))
      clear hb BW8 HE
      obtain ⟨sq, hsq⟩ : ∃ sq, sq = w8.heap.size := ⟨_, rfl⟩
      rw [← hsq] at hq0 hq1 hs9
      rw [← hsq]
      clear hsq
      as_aux_lemma =>
      go_upto_region 34 with fail
      go_cut [27, 28] (fun s t wx => ∃ g cap : Nat, s = .slice (some ⟨g, 0, none⟩) (mm + 1) cap ∧ t = .bool true ∧ g < wx.heap.size ∧ mm + 1 ≤ cap ∧ cap ≤ maxLen ∧ Hid (∀ j, j ≤ mm → wx.cell? ⟨g, j, none⟩ = some (cv (LT.getD j (0, 0)))) ∧ Below w9.heap.size w9 wx)
      case first =>
        as_aux_lemma =>
        go_wp2_with fail
        all_goals (refine (HO.out _ (by omega) _).mono ?_; rintro e w10 ⟨g, cap, rfl, hg0, hg1, hcap0, hcap1, hcells, hb⟩)
        all_goals (have CELLS := Lib.hid hcells; clear hcells)
        all_goals (have HB := Lib.hid hb; clear hb)
        all_goals (clear hq0 hq1 hs9 hg0)
        all_goals go_wp2_with fail
        all_goals go_meet
        all_goals exact ⟨g, cap, rfl, rfl, hg1, hcap0, hcap1, CELLS.out, HB.out⟩
      case rest =>
      obtain ⟨g, cap, rfl, rfl, hg1, hcap0, hcap1, hcells, hb⟩ := hcut
      rw [← (bcell hb).1 _ _ hs9] at hq0 hq1
      have hs10 : sq < wc.heap.size := by have := hb.size; omega
      have BW10 := BW9.trans (hb.mono BW9.size)
      have KN := Lib.hid (fun fl => nearEscape_any g (mm + 1) cap d LT fl wc (by omega) (by omega) HF.out (fun j hj => hcells.out j (by omega)))
      clear hb hcells hs9 BW9 HO HF
      as_aux_lemma =>
      go_wp2_with fail
      refine (KN.out false).mono ?_
      rintro e w11 ⟨rfl, rfl⟩
      go_wp2_with fail
      refine (KN.out true).mono ?_
      rintro e w11 ⟨rfl, rfl⟩
      clear KN
      obtain ⟨rs, p1, K1⟩ := spread_calls HC2.out HZ.out
      obtain ⟨t, KI, KB⟩ := border_calls HC2.out
      have P1 := Lib.hid p1
      have K1 := Lib.hid K1
      have KI := Lib.hid KI
      have KB := Lib.hid KB
      clear p1
      as_aux_lemma =>
      go_wp2_with fail
      refine (K1.out _).mono ?_
      rintro e w12 ⟨rfl, hb⟩
      have BW12 := BW10.trans (hb.mono BW10.size)
      clear hb hq0 hq1 hs10 BW10 K1
      go_wp2_with fail
      refine (KB.out _).mono ?_
      rintro e w13 ⟨rb, rfl, p2, P3, rfl⟩
      clear KB
      have p1 := P1.out
      cases t
      · go_wp2_with (go_at_call 20; refine (KI.out _).mono ?_; rintro e w' ⟨rfl, rfl⟩)
        all_goals (first | (exfalso; omega) | skip)
        all_goals go_ret
        all_goals exact ⟨rfl, BW12⟩
      · have p3 : (FloatKind.f32.format.order rb 0 == some .eq) = true := P3.out rfl
        go_wp2_with (go_at_call 20; refine (KI.out _).mono ?_; rintro e w' ⟨rfl, rfl⟩)
        all_goals (first | (exfalso; omega) | skip)
        all_goals go_ret
        all_goals exact ⟨rfl, BW12⟩
      --]]
end
end Go.Proofs.Ytjhicedblobjfaa
