/- The law FnEscapes: the walk. -/
import Derived.Test.YtjhicedblobjfaaC1
import Derived.BigQuiet
import Derived.StillTailTactics
import Derived.Deep.DeepCutAuto
import Derived.Deep.RegionWith
import Derived.BigRegion
import Derived.IntWalk
namespace Go.Proofs.Ytjhicedblobjfaa
open Go.RowKit Ieee

section
set_option maxHeartbeats 0
set_option maxRecDepth 100000

theorem fnEscapes_any (m n : Nat) (v v' : Value) (w : World) (hm : CodeIs w w.heap.size v m) (hn : CodeIs w w.heap.size v' n) :
    Calls Try.prog 5 #[v, v'] w fun e w' => e = .returned (.bool true) ∧ Below w.heap.size w w' := by
  have M0 := Lib.hid hm
  have N0 := Lib.hid hn
  have R0 := Lib.hid (show ∀ (a : Option Addr) (c : Nat) (b : Option Addr) (d : Nat) (w : World), v = .slice a m c → v' = .slice b n d → Calls Try.prog 7 #[.slice a m c, .slice b n d] w fun e w' => e = .returned (.bool false) ∧ w = w' from
    fun a c b d w _ _ => r8Long_no a b m n c d w hm.1 hn.1)
  have hv : ∃ a cap, v = .slice a m cap := by obtain ⟨_, a, cap, hv, _⟩ := hm; exact ⟨a, cap, hv⟩
  have hv' : ∃ a cap, v' = .slice a n cap := by obtain ⟨_, a, cap, hv, _⟩ := hn; exact ⟨a, cap, hv⟩
  obtain ⟨a1, c1, rfl⟩ := hv
  obtain ⟨a2, c2, rfl⟩ := hv'
  clear hm hn
  go_enter Try.func5, Try.ntmps5
  go_wp2_with fail
  refine (R0.out _ _ _ _ _ rfl rfl).mono ?_
  rintro e w1 ⟨rfl, rfl⟩
  clear R0
  go_wp2_with fail
  refine (r8At_any 0 4 (by decide) (by decide) (by decide) (by decide) _ n _ _ N0.out).mono ?_
  rintro e w1 ⟨k, rfl, hk0, hk4, rfl⟩
  go_wp2_with fail
  refine (r8Point_any m _ _ M0.out).mono ?_
  rintro e w1 ⟨ca, cb, rfl, hc, hb1⟩
  have M1 := Lib.hid (codeIs_mono (codeIs_below M0.out hb1) hb1.size)
  have N1 := Lib.hid (codeIs_mono (codeIs_below N0.out hb1) hb1.size)
  have HC := Lib.hid (show LatC ca cb from hc)
  have BW1 := hb1
  clear hc hb1 M0 N0
  go_wp2_with fail
  have hba : Below w1.heap.size w1 (w1.alloc (.cells #[.int .i64 k, .complex .f32 ca cb] 28)) := (Below.refl _ _).alloc (Nat.le_refl _) _
  have N2 := Lib.hid (codeIs_mono (codeIs_below N1.out hba) hba.size)
  clear hba
  refine (r8Point_any n _ _ N2.out).mono ?_
  rintro e w2 ⟨a, b, rfl, hz, hb2⟩
  have N3 := Lib.hid (codeIs_mono (codeIs_below N2.out hb2) hb2.size)
  have M2 := Lib.hid (codeIs_mono (codeIs_below M1.out (((Below.refl _ _).alloc (Nat.le_refl _) _).trans (hb2.mono (by simp)))) (show w1.heap.size ≤ w2.heap.size by have := hb2.size; simp at this; omega))
  have hc0 : w2.cell? ⟨w1.heap.size, 0, none⟩ = some (.int .i64 k) := by rw [(bcell hb2).1 _ _ (by simp)]; simp
  have hc1 : w2.cell? ⟨w1.heap.size, 1, none⟩ = some (.complex .f32 ca cb) := by rw [(bcell hb2).1 _ _ (by simp)]; simp
  have hs2 : w1.heap.size < w2.heap.size := by have := hb2.size; simp at this; omega
  have HZ := Lib.hid (show LatC a b from hz)
  have BW2 : Below w.heap.size w w2 := (BW1.alloc BW1.size _).trans (hb2.mono (by have := BW1.size; simp; omega))
  clear hb2 hz M1 N1 N2 BW1
  as_aux_lemma =>
  obtain ⟨q, hq⟩ : ∃ q, q = w1.heap.size := ⟨_, rfl⟩
  rw [← hq] at hc0 hc1 hs2
  rw [← hq]
  clear hq
  go_wp2_with fail
  refine (r8At_any 1 24 (by decide) (by decide) (by decide) (by decide) _ n _ _ N3.out).mono ?_
  rintro e w3 ⟨most, rfl, hm0, hm1, rfl⟩
  obtain ⟨most, rfl⟩ : ∃ q : Nat, most = q := ⟨most.toNat, by omega⟩
  clear N3
  have hk3 : k ≤ 3 := by omega
  obtain ⟨d, L, hG⟩ := esc_lat hk0 hk3 HC.out HZ.out most 0
  have hdm := hG.le
  have hesc := hG.esc
  rw [Nat.zero_add] at hesc
  have sc := latC_small HC.out
  have sz := latC_small HZ.out
  have HE := Lib.hid (fun w => escapeOf_any k hk0 hk3 ca cb a b most (by omega) _ w sc sz hesc)
  have HS : Hid (∀ w, Calls Try.prog 32 #[.agg #[.int .i64 k, .complex .f32 ca cb], .complex .f32 a b, .int .i64 most] w (SmoothPost d most w)) := by
    intro w
    by_cases hd : d = most
    · subst hd
      exact smoothOf_most k hk0 hk3 ca cb a b d (by omega) _ _ w sc sz hesc
    · obtain ⟨p, P, e1, n1, _, h4⟩ := hG.pow d (Nat.le_refl _)
      obtain ⟨p1, p2⟩ := h4 rfl (by omega)
      exact smoothOf_less k hk0 hk3 ca cb a b most d (by omega) (by omega) _ _ p P w sc sz hesc e1 n1 p1 p2
  have HO := Lib.hid (fun w => orbitOf_any k hk0 hk3 ca cb a b d (by omega) L w sc sz hG.orb)
  have G := Lib.hid hG
  clear hG hesc sc sz
  go_wp2_with fail
  refine (HE.out _).mono ?_
  rintro e w3 ⟨rfl, hb⟩
  rw [← (bcell hb).1 _ _ hs2] at hc0 hc1
  have hs3 : q < w3.heap.size := by have := hb.size; omega
  have M3 := Lib.hid (codeIs_mono (codeIs_below M2.out hb) hb.size)
  have BW3 := BW2.trans (hb.mono BW2.size)
  clear hs2 hb M2 HE BW2
  go_wp2_with fail
  refine (HS.out _).mono ?_
  rintro e w4 ⟨sm, rfl, hsm, hsn, hb⟩
  rw [← (bcell hb).1 _ _ hs3] at hc0 hc1
  have hs4 : q < w4.heap.size := by have := hb.size; omega
  have M4 := Lib.hid (codeIs_mono (codeIs_below M3.out hb) hb.size)
  have BW4 := BW3.trans (hb.mono BW3.size)
  clear hs3 hb M3 HS BW3
  go_wp2_with fail
  refine (HO.out _).mono ?_
  rintro e w5 ⟨g, cap, rfl, hg0, hg1, hcap0, hcap1, hcells, hb⟩
  rw [← (bcell hb).1 _ _ hs4] at hc0 hc1
  have hs5 : q < w5.heap.size := by have := hb.size; omega
  have M5 := Lib.hid (codeIs_mono (codeIs_below M4.out hb) hb.size)
  have CELLS := Lib.hid hcells
  have BW5 := BW4.trans (hb.mono BW4.size)
  clear hs4 hb M4 HO hcells BW4
  as_aux_lemma =>
  obtain ⟨x, nx, x0, x1, x2⟩ := hsm
  -- the lengths' bounds
  have o0 : (FloatKind.f32.format.order sm 0 == some .lt) = false := ord_nlt nx num0 x0
  obtain ⟨sw, ew, nw, _⟩ := widen_num nx
  have HG := Lib.hid (fun w => r8Gap_any sw (floatOfInt .f64 d) x (d : Rat) 4 nw (ofInt_num (k := .f64) (d : Int) (by omega)) (by grind) (by grind) (rep_n .f64 4 (by decide) _ (by decide +kernel)) (by decide +kernel) w)
  have HSN := Lib.hid hsn
  have NX := Lib.hid nx
  clear nx nw x0 x1 x2 hsn
  go_upto_region 9 with fail
  go_cut [121] (fun s wx => s = .bool false ∧ wx = w5)
  case first =>
    --[[
    as_aux_lemma =>
    have gap : ∀ z : Rat, z ≤ 4 → ∀ r, NumK .f64 r z → (FloatKind.f64.format.order r 4616189618054758400 == some .gt) = false := fun z hz r nr => ord_ngt nr l64_4 hz
    have GAP := Lib.hid gap
    clear gap
    by_cases hd : d = most
    · subst hd
      have hsm := HSN.out rfl
      have nx := NX.out
      have o1 : (FloatKind.f32.format.order sm (floatOfInt .f32 d) != some .eq) = false := by
        rw [← hsm]
        have := ord_eq nx nx
        simp only [bne, this]; rfl
      clear hsm nx
      go_wp2_with fail
      refine (HG.out _).mono ?_
      rintro e w6 ⟨r, rfl, ⟨z, nr, hz⟩, rfl⟩
      have o2 := GAP.out z hz r nr
      clear nr
      go_wp2_with fail
      go_meet
      exact ⟨rfl, rfl⟩
    · have o1 : ((d : Int) == (most : Int)) = false := by simp; omega
      go_wp2_with fail
      refine (HG.out _).mono ?_
      rintro e w6 ⟨r, rfl, ⟨z, nr, hz⟩, rfl⟩
      have o2 := GAP.out z hz r nr
      clear nr
      go_wp2_with fail
      go_meet
      exact ⟨congrArg Value.bool (by simp; omega), rfl⟩
    --]]
  case rest =>
  obtain ⟨rfl, hwc⟩ := hcut
  replace hwc := hwc.symm
  subst hwc
  clear HG HSN NX ew o0
  as_aux_lemma =>
  go_wp2_with fail
  go_loopw [14] (fun i wr => ∃ j : Nat, j ≤ d + 1 ∧ i = .int .i64 j ∧ Below w5.heap.size w5 wr) (fun i _ => d + 1 - (intOf i).toNat)
  case atStart => exact ⟨0, by omega, rfl, Below.refl _ _⟩
  case round =>
    obtain ⟨j, hj, rfl, hbr⟩ := hrel
    as_aux_lemma =>
    by_cases hlt : j ≤ d
    · have G1 := G.out
      obtain ⟨z, hz⟩ : ∃ z, z = L.getD j (0, 0) := ⟨_, rfl⟩
      have hcj : wr.cell? ⟨g, j, none⟩ = some (.complex .f32 z.1 z.2) := by rw [(bcell hbr).1 _ _ hg1, CELLS.out j hlt, hz]; rfl
      obtain ⟨p, Q, e1, n1, h1, h2⟩ := G1.pow j hlt
      rw [← hz] at e1
      have HP := Lib.hid (fun w => powerOf_any z.1 z.2 p w e1)
      have HQ := Lib.hid (show ∀ b : Bool, decide (Q ≤ 4) = b → (FloatKind.f32.format.order p 1082130432 == some .lt || FloatKind.f32.format.order p 1082130432 == some .eq) = b from by
        intro b hb
        by_cases hq : Q ≤ 4
        · rw [ord_le n1 num4 hq, ← hb]; simp [hq]
        · rw [ord_nle n1 num4 (by grind), ← hb]; simp [hq])
      obtain ⟨β, hβ⟩ : ∃ β, decide (Q ≤ 4) = β := ⟨_, rfl⟩
      have ho := HQ.out β hβ
      have HB := Lib.hid hβ
      clear hβ HQ
      have HZ1 := Lib.hid hz
      have HPW := Lib.hid (And.intro h1 h2)
      clear G1 e1 n1 hz h1 h2
      go_upto_region 15 with ((go_at_call 33; refine (HP.out _).mono ?_; rintro e w' ⟨rfl, rfl⟩))
      go_cut [153] from 122 to 176 (fun s wx => s = .bool false ∧ wx = wr)
      case first =>
        --[[
        as_aux_lemma =>
        by_cases hjd : j < d
        · obtain rfl : β = true := by rw [← HB.out]; have := HPW.out.1 hjd; simpa using this
          go_wp2_with fail
          go_meet
          exact ⟨rfl, rfl⟩
        · have hjd' : j = d := by omega
          subst hjd'
          by_cases hdm' : j < most
          · obtain rfl : β = false := by rw [← HB.out]; have := HPW.out.2 rfl hdm'; simp; grind
            go_wp2_with fail
            go_meet
            exact ⟨rfl, rfl⟩
          · cases β
            all_goals go_wp2_with fail
            all_goals go_meet
            all_goals exact ⟨rfl, rfl⟩
        --]]
      case rest =>
        obtain ⟨rfl, hwc⟩ := hcut
        replace hwc := hwc.symm
        subst hwc
        clear HP HPW HB
        as_aux_lemma =>
        by_cases hj0 : j = 0
        · subst hj0
          clear hcj HZ1
          go_wp2_with fail
          go_roundw
          case rel => exact ⟨1, by omega, by go_num, hbr⟩
          case measure => simp [intOf]
        · obtain ⟨i, hji⟩ : ∃ i, j = i + 1 := ⟨j - 1, by omega⟩
          have G1 := G.out
          obtain ⟨zp, hzp⟩ : ∃ zp, zp = L.getD i (0, 0) := ⟨_, rfl⟩
          have hci : wr.cell? ⟨g, i, none⟩ = some (.complex .f32 zp.1 zp.2) := by rw [(bcell hbr).1 _ _ hg1, CELLS.out i (by omega), hzp]; rfl
          have hnx := G1.orb.next i (by omega)
          have hsm := G1.orb.small i (by omega)
          have hfn := G1.orb.fin j hlt
          rw [← hzp, ← hji] at hnx
          rw [← hzp] at hsm
          rw [← HZ1.out] at hnx hfn
          have HN := Lib.hid (fun w => mapOnce_any k hk0 hk3 ca cb zp.1 zp.2 z w (latC_small HC.out) hsm hnx hfn.1 hfn.2)
          have HSM := Lib.hid (fun w => sameComplex_self z.1 z.2 w hfn.1 hfn.2)
          have hr0 : wr.cell? ⟨q, 0, none⟩ = some (.int .i64 k) := by rw [(bcell hbr).1 _ _ hs5]; exact hc0
          have hr1 : wr.cell? ⟨q, 1, none⟩ = some (.complex .f32 ca cb) := by rw [(bcell hbr).1 _ _ hs5]; exact hc1
          have hbs := hbr.size
          have hi0 : (0 : Int) < (j : Int) := by omega
          have hi1 : (i : Int) < (d : Int) + 1 := by omega
          have hi2 : i < d + 1 := by omega
          clear G1 hzp hnx hsm hfn
          have hij : (j : Int) - 1 = (i : Int) := by omega
          have hw1 : IntKind.i64.wrap ((j : Int) - 1) = (i : Int) := by rw [hij]; exact IntWalk.i64_in _ (by omega)
          have hw2 : IntKind.i64.wrap (i : Int) = (i : Int) := IntWalk.i64_in _ (by omega)
          have WW := Lib.hid (And.intro hij (And.intro hw1 hw2))
          clear hij hw1 hw2 hji hj0
          go_upto_region 18 with fail
          go_cut [16, 17] from 122 to 176 (fun s t wx => s = .complex .f32 z.1 z.2 ∧ t = .bool true ∧ Below wr.heap.size wr wx)
          case first =>
            --[[
            as_aux_lemma =>
            obtain ⟨hij, hw1, hw2⟩ := WW.out
            go_region_with (go_at_call 34; refine (HN.out _).mono ?_; rintro e w2 ⟨rfl, hb2⟩)
            all_goals go_wp2_with fail
            all_goals go_meet
            all_goals exact ⟨rfl, rfl, hb2.os, hb2.tape, hb2.output, hb2.size, hb2.block⟩
            --]]
          case rest =>
            --[[
            as_aux_lemma =>
            obtain ⟨rfl, rfl, hb2⟩ := hcut
            have hcj2 : wc.cell? ⟨g, j, none⟩ = some (.complex .f32 z.1 z.2) := by rw [(bcell hb2).1 _ _ (by omega)]; exact hcj
            clear hcj hci hr0 hr1 WW
            go_wp2_with (go_at_call 26; refine (HSM.out _).mono ?_; rintro e w' ⟨rfl, rfl⟩)
            go_roundw
            case rel => exact ⟨j + 1, by omega, by go_num, hbr.trans (hb2.mono hbs)⟩
            case measure => simp [intOf]; omega
            --]]
    · have hjd : j = d + 1 := by omega
      subst hjd
      clear hlt hj
      have M6 := Lib.hid (codeIs_mono (codeIs_below M5.out hbr) hbr.size)
      have BW6 := BW5.trans (hbr.mono BW5.size)
      clear M5 hbr CELLS G hc0 hc1 hs5 hg0 hg1 hcap0 hcap1 BW5
      as_aux_lemma =>
      go_wp2_with fail
      refine (r8Point_any m _ _ M6.out).mono ?_
      rintro e w6 ⟨ea, eb, rfl, hc', hb⟩
      have BW7 := BW6.trans (hb.mono BW6.size)
      clear M6 hb BW6
      have HC2 := Lib.hid (show LatC ea eb from hc')
      clear hc'
      obtain ⟨r1, r2, r3, r4, u1, u2, t1, t2, s1, s2, e1, e2, f1, f2, g1, g2, le, lf, lg, We, Wf, Wg, K1, K2, K3, k4, k5, k6, k7, K8, K9, K10, k11, k12, k13, k14, k15, k16⟩ := rest_calls HC2.out
      have K1 := Lib.hid K1
      have K2 := Lib.hid K2
      have K3 := Lib.hid K3
      have K8 := Lib.hid K8
      have K9 := Lib.hid K9
      have K10 := Lib.hid K10
      go_wp2_with fail
      refine (K1.out _).mono ?_
      rintro e w7 ⟨rfl, rfl⟩
      go_wp2_with fail
      refine (K2.out _).mono ?_
      rintro e w8 ⟨rfl, hb⟩
      have hq0 : w8.cell? ⟨w6.heap.size, 0, none⟩ = some (.int .i64 0) := by rw [(bcell hb).1 _ _ (by simp)]; simp
      have hq1 : w8.cell? ⟨w6.heap.size, 1, none⟩ = some (.complex .f32 ea eb) := by rw [(bcell hb).1 _ _ (by simp)]; simp
      have hs8 : w6.heap.size < w8.heap.size := by have := hb.size; simp at this; omega
      have BW8 : Below w.heap.size w w8 := (BW7.alloc BW7.size _).trans (hb.mono (by have := BW7.size; simp; omega))
      clear hb BW7
      obtain ⟨sq, hsq⟩ : ∃ sq, sq = w6.heap.size := ⟨_, rfl⟩
      rw [← hsq] at hq0 hq1 hs8
      rw [← hsq]
      clear hsq
      go_wp2_with fail
      refine (K3.out _).mono ?_
      rintro e w9 ⟨rfl, hb⟩
      rw [← (bcell hb).1 _ _ hs8] at hq0 hq1
      have hs9 : sq < w9.heap.size := by have := hb.size; omega
      have BW9 := BW8.trans (hb.mono BW8.size)
      clear hs8 hb BW8
      as_aux_lemma =>
      go_wp2_with fail
      refine (K8.out _).mono ?_
      rintro e w10 ⟨rfl, rfl⟩
      go_wp2_with fail
      refine (K9.out _).mono ?_
      rintro e w10 ⟨rfl, rfl⟩
      go_wp2_with fail
      refine (K10.out _).mono ?_
      rintro e w10 ⟨rfl, rfl⟩
      clear K1 K2 K3 K8 K9 K10 
      obtain ⟨t, KI, KE⟩ := heart_calls HC2.out
      have KI := Lib.hid KI
      have KE := Lib.hid KE
      go_upto_if 235 with ((go_at_call 20; refine (KI.out _).mono ?_; rintro e w' ⟨rfl, rfl⟩))
      clear k4 k5 k6 k7 k11 k12 k13 k14 k15 k16
      go_cut [] (fun wx => Below w9.heap.size w9 wx)
      case first =>
        --[[
        as_aux_lemma =>
        cases t
        · go_wp2_with fail
          go_meet
          exact Below.refl _ _
        · have KE2 := Lib.hid (KE.out rfl)
          clear KE
          go_wp2_with fail
          refine (KE2.out _).mono ?_
          rintro e w10 ⟨rfl, hb⟩
          go_wp2_with fail
          go_meet
          exact hb
        --]]
      case rest =>
        clear KI KE
        rw [← (bcell hcut).1 _ _ hs9] at hq0 hq1
        have hs10 : sq < wc.heap.size := by have := hcut.size; omega
        have BW10 := BW9.trans (hcut.mono BW9.size)
        clear hs9 hcut BW9
        as_aux_lemma =>
        obtain ⟨LW, GW, KW, KV⟩ := walk_calls HC2.out HZ.out
        have GW := Lib.hid GW
        have KW := Lib.hid KW
        have KV := Lib.hid KV
        go_wp2_with fail
        refine (KW.out _).mono ?_
        rintro e w11 ⟨gw, capw, rfl, hg0, hg1, hcap0, hcap1, hcells, hb⟩
        rw [← (bcell hb).1 _ _ hs10] at hq0 hq1
        have hs11 : sq < w11.heap.size := by have := hb.size; omega
        have BW11 := BW10.trans (hb.mono BW10.size)
        clear hs10 hb BW10
        go_wp2_with fail
        refine (KV.out _).mono ?_
        rintro e w12 ⟨gv, capv, rfl, _, _, _, _, _, hb⟩
        rw [← (bcell hb).1 _ _ hs11] at hq0 hq1
        have hs12 : sq < w12.heap.size := by have := hb.size; omega
        have CW : Hid (∀ j, j < 5 → w12.cell? ⟨gw, j, none⟩ = some (cv (LW.getD j (0, 0)))) := fun j hj => by rw [(bcell hb).1 _ _ hg1]; exact hcells j hj
        have hg2 : gw < w12.heap.size := by have := hb.size; omega
        have BW12 := BW11.trans (hb.mono BW11.size)
        clear hs11 hb hcells hg1 hg0 KW KV BW11
        as_aux_lemma =>
        rw [seedN_zero]
        have hs5 := seed5
        go_wp2_with fail
        go_loopw [35, 36] (fun la i wr => ∃ (j : Nat) (zl : Nat × Nat), j ≤ 5 ∧ i = .int .i64 j ∧ la = .complex .f32 zl.1 zl.2 ∧ Hid (zl = prevN (a, b) LW j) ∧ Below w12.heap.size w12 wr) (fun _ i _ => 5 - (intOf i).toNat)
        case atStart => exact ⟨0, (a, b), by omega, rfl, rfl, Lib.hid rfl, Below.refl _ _⟩
        case round =>
          obtain ⟨j, zl, hj, rfl, rfl, HZL, hbr⟩ := hrel
          as_aux_lemma =>
          by_cases hlt : j < 5
          · obtain ⟨y, hy⟩ : ∃ y, y = LW.getD j (0, 0) := ⟨_, rfl⟩
            have hcj : wr.cell? ⟨gw, j, none⟩ = some (.complex .f32 y.1 y.2) := by rw [(bcell hbr).1 _ _ hg2, CW.out j hlt, hy]; rfl
            obtain ⟨u1, u2, e1, e2, l, W, S1, S2, S3, S4, S5⟩ := step_calls HC2.out GW.out j hlt y zl hy HZL.out
            have S1 := Lib.hid S1
            have S3 := Lib.hid S3
            have HY : Hid (y = prevN (a, b) LW (j + 1)) := by
              have e : prevN (a, b) LW (j + 1) = LW.getD j (0, 0) := by unfold prevN; rw [if_neg (by omega)]; rfl
              rw [e]; exact hy
            have hr0 : wr.cell? ⟨sq, 0, none⟩ = some (.int .i64 0) := by rw [(bcell hbr).1 _ _ hs12]; exact hq0
            have hr1 : wr.cell? ⟨sq, 1, none⟩ = some (.complex .f32 ea eb) := by rw [(bcell hbr).1 _ _ hs12]; exact hq1
            have hbs := hbr.size
            have hj5 : (j : Int) < 5 := by omega
            clear hy HZL
            go_upto_region 40 with fail
            go_cut [37, 38] from 281 to 307 (fun s t wx => s = .complex .f32 u1 u2 ∧ t = .bool true ∧ Below wr.heap.size wr wx)
            case first =>
              --[[
              as_aux_lemma =>
              go_region_with (go_at_call 34; refine (S1.out _).mono ?_; rintro e w2 ⟨rfl, hb2⟩)
              all_goals go_wp2_with fail
              all_goals go_meet
              all_goals exact ⟨rfl, rfl, hb2.os, hb2.tape, hb2.output, hb2.size, hb2.block⟩
              --]]
            case rest =>
              --[[
              as_aux_lemma =>
              obtain ⟨rfl, rfl, hb2⟩ := hcut
              have hcj2 : wc.cell? ⟨gw, j, none⟩ = some (.complex .f32 y.1 y.2) := by rw [(bcell hb2).1 _ _ (by omega)]; exact hcj
              clear hcj hr0 hr1
              go_wp2_with (go_at_call 12; refine (S3.out _).mono ?_; rintro e w' ⟨rfl, rfl⟩)
              go_roundw
              case rel => exact ⟨j + 1, y, by omega, by go_num, rfl, HY, hbr.trans (hb2.mono hbs)⟩
              case measure => simp [intOf]; omega
              --]]
          · have hj5 : j = 5 := by omega
            subst hj5
            go_wp2
            go_ret
            exact ⟨rfl, BW12.trans (hbr.mono BW12.size)⟩
end
end Go.Proofs.Ytjhicedblobjfaa
