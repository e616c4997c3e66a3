/- Walks: logarithms. -/
import Derived.Test.YtjhicedblobjfaaA7
import Derived.Test.YtjhicedblobjfaaF4
namespace Go.Proofs.Ytjhicedblobjfaa
open Go.RowKit

/-- the call gives some float of which Q holds, and leaves the world alone -/
def RetF (kd : FloatKind) (Q : Nat → Prop) (w : World) (e : Ending) (w' : World) : Prop := ∃ r, e = .returned (.float kd r) ∧ Q r ∧ w = w'

section
set_option maxHeartbeats 800000

theorem p2_cases {n : Int} {v x : Rat} (hx : x * 2 ^ n = v) (h1 : 3 / 4 ≤ x) (h2 : x < 3 / 2) : 3 / 4 * 2 ^ n ≤ v ∧ v < 3 / 2 * 2 ^ n ∧ (2 ^ n ≤ v → 1 ≤ x) := by
  have hp := p2_pos n
  have g1 := Rat.mul_le_mul_of_nonneg_right h1 (Rat.le_of_lt hp)
  have g2 := Rat.mul_lt_mul_of_pos_right h2 hp
  rw [hx] at g1 g2
  refine ⟨g1, g2, fun h => ?_⟩
  rw [← hx] at h
  exact Rat.le_of_mul_le_mul_right (show 1 * 2 ^ n ≤ x * 2 ^ n by rw [Rat.one_mul]; exact h) hp

theorem lo_bound {j : Nat} {v x : Rat} (hx : x * 2 ^ (j : Int) = v) (h1 : 3 / 2 ≤ x) (hv : v ≤ 1024) : j < 10 := by
  have hp := p2_pos (j : Int)
  have g1 := Rat.mul_le_mul_of_nonneg_right h1 (Rat.le_of_lt hp)
  have e : (1024 : Rat) = 2 ^ (10 : Int) := by decide +kernel
  have : (2 : Rat) ^ (j : Int) < 2 ^ (10 : Int) := by rw [← e]; grind
  have := p2_lt_inv this
  omega
theorem hi_bound {n : Int} {v x : Rat} (hx : x * 2 ^ n = v) (h1 : x < 3 / 4) (hv : 1 / 1024 ≤ v) : -10 < n := by
  have hp := p2_pos n
  have g1 := Rat.mul_lt_mul_of_pos_right h1 hp
  have e : (1 / 1024 : Rat) = 2 ^ (-10 : Int) := by decide +kernel
  have : (2 : Rat) ^ (-10 : Int) < 2 ^ n := by rw [← e]; grind
  exact p2_lt_inv this

set_option maxRecDepth 100000 in
theorem naturalLog_any (xb : Nat) (v : Rat) (hv : NumK .f64 xb v) (h1 : 1 / 1024 ≤ v) (h2 : v ≤ 1024) (w : World) :
    Calls Try.prog 111 #[.float .f64 xb] w (RetF .f64 (fun r => ∃ y n, NumK .f64 r y ∧ LogIs v n y) w) := by
  have HV := Lib.hid hv
  have B1 := Lib.hid h1
  have B2 := Lib.hid h2
  clear hv h1 h2
  go_enter Try.func111, Try.ntmps111
  go_wp2
  go_loop [0, 3] (fun x e => ∃ (j xc ec : Nat) (vx : Rat), x = .float .f64 xc ∧ e = .float .f64 ec ∧ Hid (NumK .f64 xc vx ∧ vx * 2 ^ (j : Int) = v ∧ NumK .f64 ec ((j : Int) : Rat) ∧ (j ≠ 0 → 3 / 4 ≤ vx) ∧ j ≤ 10 ∧ 0 < vx ∧ vx ≤ 1024)) (fun _ e => (20 - fint e).toNat)
  case atStart => 
    refine ⟨0, xb, 0, v, rfl, rfl, HV.out, by simp [p2_zero], l64_zero, fun h => absurd rfl h, by omega, ?_, B2.out⟩
    have := B1.out; grind
  case round =>
    obtain ⟨j, xc, ec, vx, rfl, rfl, H⟩ := hrel
    obtain ⟨nx, hxv, ne, hj0, hj, hx0, hx1⟩ := H.out
    by_cases hge : 3 / 2 ≤ vx
    · have ho := ord_ge nx l64_15 hge
      have hj10 := lo_bound hxv hge B2.out
      obtain ⟨r, hr, nr⟩ := half_step nx (by grind) (by grind)
      obtain ⟨s, hs, ns⟩ := up_step (n := (j : Int)) ne (by omega)
      have hm1 := fint_eq ne
      have hm2 := fint_eq ns
      have R : Hid (NumK .f64 r (vx / 2) ∧ vx / 2 * 2 ^ ((j + 1 : Nat) : Int) = v ∧ NumK .f64 s (((j + 1 : Nat) : Int) : Rat) ∧ (j + 1 ≠ 0 → 3 / 4 ≤ vx / 2) ∧ j + 1 ≤ 10 ∧ 0 < vx / 2 ∧ vx / 2 ≤ 1024) := by
        refine ⟨nr, ?_, ns, fun _ => by grind, by omega, by grind, by grind⟩
        rw [← hxv]
        have : (2 : Rat) ^ ((j + 1 : Nat) : Int) = 2 * 2 ^ (j : Int) := by rw [← p2_succ]; rfl
        rw [this]; grind
      have HM : Hid (fint (.float .f64 s) = fint (.float .f64 ec) + 1 ∧ fint (.float .f64 ec) < 20) := ⟨by rw [hm1, hm2], by rw [hm1]; omega⟩
      clear nx hxv ne hj0 hx0 hx1 hge nr ns hm1 hm2 H
      go_wp2
      go_round
      case rel => exact ⟨j + 1, r, s, vx / 2, rfl, rfl, R⟩
      case measure => have := HM.out; simp; omega
    · have ho := ord_nge nx l64_15 (by grind)
      have hlt : vx < 3 / 2 := by grind
      have R0 : Hid (NumK .f64 xc vx ∧ vx * 2 ^ (j : Int) = v ∧ NumK .f64 ec ((j : Int) : Rat) ∧ -10 ≤ (j : Int) ∧ (j : Int) ≤ 10 ∧ vx < 3 / 2 ∧ 0 < vx) := ⟨nx, hxv, ne, by omega, by omega, hlt, hx0⟩
      clear hge hx1 nx hxv ne hj0 hj hx0 hlt H
      go_wp2
      clear ho
      go_loop [0, 3] (fun x e => ∃ (n : Int) (xc ec : Nat) (vx : Rat), x = .float .f64 xc ∧ e = .float .f64 ec ∧ Hid (NumK .f64 xc vx ∧ vx * 2 ^ n = v ∧ NumK .f64 ec (n : Rat) ∧ -10 ≤ n ∧ n ≤ 10 ∧ vx < 3 / 2 ∧ 0 < vx)) (fun _ e => (fint e + 20).toNat)
      case atStart => exact ⟨(j : Int), xc, ec, vx, rfl, rfl, R0⟩
      case round =>
        clear R0
        obtain ⟨n, xd, ed, vd, rfl, rfl, H⟩ := hrel
        obtain ⟨nx, hxv, ne, hn0, hn1, hx1, hx0⟩ := H.out
        by_cases hlt : vd < 3 / 4
        · have ho := ord_lt nx l64_075 hlt
          have hnb := hi_bound hxv hlt B1.out
          obtain ⟨r, hr, nr⟩ := dbl_step nx (by grind) (by grind)
          obtain ⟨s, hs, ns⟩ := down_step ne (by omega)
          have hm1 := fint_eq ne
          have hm2 := fint_eq ns
          have R : Hid (NumK .f64 r (vd * 2) ∧ vd * 2 * 2 ^ (n - 1) = v ∧ NumK .f64 s ((n - 1 : Int) : Rat) ∧ -10 ≤ n - 1 ∧ n - 1 ≤ 10 ∧ vd * 2 < 3 / 2 ∧ 0 < vd * 2) := by
            refine ⟨nr, ?_, ns, by omega, by omega, by grind, by grind⟩
            rw [← hxv]
            have : (2 : Rat) ^ n = 2 * 2 ^ (n - 1) := by rw [← p2_succ]; congr 1; omega
            rw [this]; grind
          have HM : Hid (fint (.float .f64 s) = fint (.float .f64 ed) - 1 ∧ -20 < fint (.float .f64 ed)) := ⟨by rw [hm1, hm2], by rw [hm1]; omega⟩
          clear nx hxv ne hn0 hn1 hx0 hx1 hlt nr ns hm1 hm2 H hnb
          go_wp2
          go_round
          case rel => exact ⟨n - 1, r, s, vd * 2, rfl, rfl, R⟩
          case measure => have := HM.out; simp; omega
        · have hge : 3 / 4 ≤ vd := by grind
          have ho := ord_nlt nx l64_075 hge
          obtain ⟨r1, r2, r3, r4, sv, e1, e2, e3, e4, n3, b0, b1, b2, uv, n4, u0, u1⟩ := quot_step nx hge (Rat.le_of_lt hx1)
          have hpc := p2_cases hxv hge hx1
          have F := Lib.hid (And.intro ne (And.intro n3 (And.intro b0 (And.intro b1 (And.intro b2 (And.intro n4 (And.intro u0 (And.intro u1 (And.intro hpc (And.intro hn0 hn1))))))))))
          clear nx hxv ne hn0 hn1 hx0 hx1 hlt hge H n3 b0 b1 b2 n4 u0 u1 hpc
          go_wp2
          clear ho e1 e2 e3 e4
          go_loop [6, 7] (fun q kk => ∃ (i qb kb : Nat) (qv : Rat), q = .float .f64 qb ∧ kk = .float .f64 kb ∧ Hid (NumK .f64 qb qv ∧ 0 ≤ qv ∧ qv ≤ 9 / 8 ∧ NumK .f64 kb ((25 - 2 * (i : Int) : Int) : Rat) ∧ i ≤ 13 ∧ (i = 13 → 1 ≤ qv))) (fun _ kk => (fint kk + 20).toNat)
          case atStart => exact ⟨0, 0, _, 0, rfl, rfl, l64_zero, by decide +kernel, by decide +kernel, l64_25, by omega, fun h => by cases h⟩
          case round =>
            obtain ⟨i, qb, kb, qv, rfl, rfl, H⟩ := hrel
            obtain ⟨nq, q0, q1, nk, hi, hq⟩ := H.out
            by_cases hi12 : i ≤ 12
            · have hk1 : (1 : Rat) ≤ ((25 - 2 * (i : Int) : Int) : Rat) := by
                have c1 : ((1 : Int) : Rat) = 1 := rfl
                rw [← c1]; exact Rat.intCast_le_intCast.2 (by omega)
              have ho := ord_ge nk l64_one hk1
              obtain ⟨t1, t2, t3, z, f1, f2, f3, nz, z0, z1, z2⟩ := horner_step F.out.2.2.2.2.2.1 nq nk F.out.2.2.2.2.2.2.1 F.out.2.2.2.2.2.2.2.1 q0 q1 hk1
              obtain ⟨s, hs, ns⟩ := down2_step nk (by omega)
              have hm1 := fint_eq nk
              have hm2 := fint_eq ns
              have R : Hid (NumK .f64 t3 z ∧ 0 ≤ z ∧ z ≤ 9 / 8 ∧ NumK .f64 s ((25 - 2 * ((i + 1 : Nat) : Int) : Int) : Rat) ∧ i + 1 ≤ 13 ∧ (i + 1 = 13 → 1 ≤ z)) := by
                refine ⟨nz, z0, z1, ?_, by omega, fun h => z2 ?_⟩
                · have e : (25 - 2 * ((i + 1 : Nat) : Int) : Int) = 25 - 2 * (i : Int) - 2 := by omega
                  rw [e]; exact ns
                · have e : (25 - 2 * (i : Int) : Int) = 1 := by omega
                  rw [e]; rfl
              have HM : Hid (fint (.float .f64 s) = fint (.float .f64 kb) - 2 ∧ -10 < fint (.float .f64 kb)) := ⟨by rw [hm1, hm2], by rw [hm1]; omega⟩
              clear nq q0 q1 nk hq hk1 nz z0 z1 z2 ns hm1 hm2 H
              go_wp2
              go_round
              case rel => exact ⟨i + 1, t3, s, z, rfl, rfl, R⟩
              case measure => have := HM.out; simp; omega
            · have hi13 : i = 13 := by omega
              have hk1 : ((25 - 2 * (i : Int) : Int) : Rat) < (1 : Rat) := by
                have c1 : ((1 : Int) : Rat) = 1 := rfl
                rw [← c1]; exact Rat.intCast_lt_intCast.2 (by omega)
              have ho := ord_nge nk l64_one hk1
              obtain ⟨ne, n3, b0, b1, b2, n4, u0, u1, hpc, hn0, hn1⟩ := F.out
              obtain ⟨g1, g2, g3, g4, y, f1, f2, f3, f4, ny, y0, y1, y2⟩ := final_step n3 nq ne b0 b1 (hq hi13) q1 (by omega)
              have R : Hid (NumK .f64 g4 y ∧ LogIs v n y) := ⟨ny, hpc.1, hpc.2.1, y0, y1, fun h => y2 (b2 (hpc.2.2 h))⟩
              clear nq q0 q1 nk hq hk1 hi13 hi12 hi H F ne n3 b0 b1 b2 n4 u0 u1 hpc hn0 hn1 ny y0 y1 y2
              go_wp2
              go_ret
              exact ⟨g4, rfl, ⟨y, R.out.1, n, R.out.2⟩, rfl⟩
end
end Go.Proofs.Ytjhicedblobjfaa
