/- Smooth counts over rationals. -/
import Derived.Test.YtjhicedblobjfaaF4
namespace Go.Proofs.Ytjhicedblobjfaa
open Ieee

theorem lt_top32 {x : Rat} (h1 : x ≤ 1000000) (h2 : -1000000 ≤ x) : x < 2 ^ top FloatKind.f32.format ∧ -2 ^ top FloatKind.f32.format < x := by
  have h3 : (1000000 : Rat) < 2 ^ (20 : Int) := by decide +kernel
  have h4 := p2_lt (show (20 : Int) < top FloatKind.f32.format by decide)
  constructor <;> grind
theorem lt_top32' {x : Rat} (h1 : x ≤ 1000000) (h2 : -1000000 ≤ x) : x < 2 ^ (top FloatKind.f32.format - 1) ∧ -2 ^ (top FloatKind.f32.format - 1) < x := by
  have h3 : (1000000 : Rat) < 2 ^ (20 : Int) := by decide +kernel
  have h4 := p2_lt (show (20 : Int) < top FloatKind.f32.format - 1 by decide)
  constructor <;> grind
theorem rq32 (c d l : Nat) (s : Bool) (x : Rat) (hc : c ≤ 2 ^ 24) (hd : d = 2 ^ l) (hl : l ≤ 100) (hx : x * (d : Rat) = sg s (c : Rat)) : Rep FloatKind.f32.format x := rep_frac .f32 s x hc hd hl hx

/-- what is known of a 32-bit logarithm: of v, with 2^n -/
def LogIs32 (v : Rat) (n : Int) (y : Rat) : Prop :=
  3 / 4 * 2 ^ n ≤ v ∧ v < 3 / 2 * 2 ^ n ∧ (n : Rat) * lnTwo - 3 / 8 ≤ y ∧ y ≤ (n : Rat) * lnTwo + 3 / 4 ∧ (2 ^ n ≤ v → (n : Rat) * lnTwo - 1 / 512 ≤ y)

theorem n_le {n m : Int} {v B : Rat} (h : 3 / 4 * 2 ^ n ≤ v) (hv : v ≤ B) (hB : B < 3 / 4 * 2 ^ (m + 1)) : n ≤ m := by
  have : (2 : Rat) ^ n < 2 ^ (m + 1) := by grind
  have := p2_lt_inv this
  omega
theorem n_ge {n m : Int} {v B : Rat} (h : v < 3 / 2 * 2 ^ n) (hv : B ≤ v) (hB : 3 / 2 * 2 ^ (m - 1) ≤ B) : m ≤ n := by
  have : (2 : Rat) ^ (m - 1) < 2 ^ n := by grind
  have := p2_lt_inv this
  omega

theorem lnTwo_bd : 693 / 1000 ≤ lnTwo ∧ lnTwo ≤ 694 / 1000 := by decide +kernel

theorem nln_ab {n : Int} (h : n.natAbs ≤ 11) : Ab ((n : Rat) * lnTwo) 8 := by
  have hnr : Ab (n : Rat) 11 := by
    have c1 : ((11 : Int) : Rat) = 11 := rfl
    have c2 : ((-11 : Int) : Rat) = -11 := rfl
    exact ⟨by have := Rat.intCast_le_intCast.2 (show (-11 : Int) ≤ n by omega); grind, by have := Rat.intCast_le_intCast.2 (show n ≤ (11 : Int) by omega); grind⟩
  have := lnTwo_bd
  exact ab_mono (ab_mul hnr (C := 694 / 1000) ⟨by grind, by grind⟩) (by decide +kernel)

theorem log32_step {r : Nat} {v y : Rat} {n : Int} (h : NumK .f64 r y) (hl : LogIs v n y) (h1 : 1 / 1000 ≤ v) (h2 : v ≤ 1000) : ∃ s z, narrow r = some s ∧ NumK .f32 s z ∧ LogIs32 v n z := by
  obtain ⟨a1, a2, a3, a4, a5⟩ := hl
  have hn1 : n ≤ 10 := n_le a1 h2 (by decide +kernel)
  have hn2 : -10 ≤ n := n_ge a2 h1 (by decide +kernel)
  have hb := nln_ab (n := n) (by omega)
  have hy : Ab y 10 := ⟨by have := hb.1; grind, by have := hb.2; grind⟩
  have h126 : (10 : Rat) < 2 ^ (126 : Int) := by decide +kernel
  obtain ⟨s, z, e, m, k⟩ := narrow_ab h hy h126
  have er := near_err k hy.2 hy.1
  have ee : 10 * ue FloatKind.f32.format + et FloatKind.f32.format ≤ 1 / 4096 := by decide +kernel
  generalize 10 * ue FloatKind.f32.format + et FloatKind.f32.format = E at *
  refine ⟨s, z, e, m, a1, a2, by grind, by grind, fun hh => ?_⟩
  have := a5 hh
  grind

theorem half32 : NumK .f32 1056964608 (1 / 2) := num_lit .f32 1056964608 false 8388608 (-24) (1 / 2) (by kernel_rfl) (by kernel_rfl)
theorem one32 : NumK .f32 1065353216 1 := num_lit .f32 1065353216 false 8388608 (-23) 1 (by kernel_rfl) (by kernel_rfl)
theorem two32 : NumK .f32 1073741824 2 := num_lit .f32 1073741824 false 8388608 (-22) 2 (by kernel_rfl) (by kernel_rfl)
theorem three32 : NumK .f32 1077936128 3 := num_lit .f32 1077936128 false 12582912 (-22) 3 (by kernel_rfl) (by kernel_rfl)
theorem four32 : NumK .f32 1082130432 4 := num_lit .f32 1082130432 false 8388608 (-21) 4 (by kernel_rfl) (by kernel_rfl)

/-- half a logarithm of a power that is out -/
theorem smooth_half {l1 : Nat} {P y1 : Rat} {n1 : Int} (h : NumK .f32 l1 y1) (hl : LogIs32 P n1 y1) (h1 : 4 < P) (h2 : P ≤ 256) :
    ∃ r z, fmul .f32 1056964608 l1 = some r ∧ NumK .f32 r z ∧ 1 / 2 ≤ z ∧ z ≤ 13 / 4 := by
  obtain ⟨a1, a2, a3, a4, _⟩ := hl
  have hn1 : n1 ≤ 8 := n_le a1 h2 (by decide +kernel)
  have hn2 : 2 ≤ n1 := n_ge a2 (Rat.le_of_lt h1) (by decide +kernel)
  have hln := lnTwo_bd
  have c1 : ((8 : Int) : Rat) = 8 := rfl
  have c2 : ((2 : Int) : Rat) = 2 := rfl
  have g1 : (n1 : Rat) ≤ 8 := by have := Rat.intCast_le_intCast.2 hn1; grind
  have g2 : (2 : Rat) ≤ n1 := by have := Rat.intCast_le_intCast.2 hn2; grind
  have m1 := Rat.mul_le_mul_of_nonneg_right g1 (show 0 ≤ lnTwo by grind)
  have m2 := Rat.mul_le_mul_of_nonneg_right g2 (show 0 ≤ lnTwo by grind)
  have t1 := lt_top32 (x := 1 / 2 * y1) (by grind) (by grind)
  obtain ⟨r, z, e, m, k⟩ := mul_num half32 h t1.1 t1.2
  exact ⟨r, z, e, m, near_ge k (rq32 1 2 1 false (1/2) (by decide) (by decide) (by decide) (by decide +kernel)) (by grind),
    near_le k (rq32 13 4 2 false (13/4) (by decide) (by decide) (by decide) (by decide +kernel)) (by grind)⟩

theorem n1_step (n : Nat) (hn128 : n ≤ 128) : ∃ r, fadd .f32 (floatOfInt .f32 (n : Int)) 1065353216 = some r ∧ NumK .f32 r ((n : Rat) + 1) := by
  have hn : NumK .f32 (floatOfInt .f32 (n : Int)) (n : Rat) := ofInt_num (k := .f32) (n : Int) (by omega)
  have hn0 : (0 : Rat) ≤ (n : Rat) := Rat.natCast_nonneg
  have hnr : (n : Rat) ≤ 128 := Rat.natCast_le_natCast.2 hn128
  have t1 := lt_top32 (x := (n : Rat) + 1) (by grind) (by grind)
  obtain ⟨r1, u, f1, u1, j1⟩ := add_num hn one32 t1.1 t1.2
  have hu : u = (n : Rat) + 1 := by
    have e : (n : Rat) + 1 = ((n + 1 : Nat) : Rat) := by push_cast; rfl
    rw [e] at j1 ⊢
    exact near_exact j1 (rep_nat .f32 (by omega))
  subst hu
  exact ⟨r1, f1, u1⟩

/-- the smooth count before it is held at 0 -/
theorem smooth_end {l2 l3 r1 : Nat} {z y2 B y3 : Rat} {n2 n3 : Int} {n : Nat} (h2 : NumK .f32 l2 y2) (k2 : LogIs32 z n2 y2) (z1 : 1 / 2 ≤ z) (z2 : z ≤ 13 / 4)
    (h3 : NumK .f32 l3 y3) (k3 : LogIs32 B n3 y3) (hB : B = 2 ∨ B = 3) (u1 : NumK .f32 r1 ((n : Rat) + 1)) (hn128 : n ≤ 128) :
    ∃ r2 r3 q, fdiv .f32 l2 l3 = some r2 ∧ fsub .f32 r1 r2 = some r3 ∧ NumK .f32 r3 q ∧ q ≤ (n : Rat) + 3 ∧ (n : Rat) ≤ q + 3 := by
  obtain ⟨a1, a2, a3, a4, _⟩ := k2
  obtain ⟨b1, b2, b3, b4, b5⟩ := k3
  have hln := lnTwo_bd
  have d1 : n2 ≤ 2 := n_le a1 z2 (by decide +kernel)
  have d2 : -1 ≤ n2 := n_ge a2 z1 (by decide +kernel)
  have c1 : ((2 : Int) : Rat) = 2 := rfl
  have c2 : ((-1 : Int) : Rat) = -1 := rfl
  have c3 : ((1 : Int) : Rat) = 1 := rfl
  have g1 : (n2 : Rat) ≤ 2 := by have := Rat.intCast_le_intCast.2 d1; grind
  have g2 : (-1 : Rat) ≤ n2 := by have := Rat.intCast_le_intCast.2 d2; grind
  have m1 := Rat.mul_le_mul_of_nonneg_right g1 (show 0 ≤ lnTwo by grind)
  have m2 := Rat.mul_le_mul_of_nonneg_right g2 (show 0 ≤ lnTwo by grind)
  have e3 : 11 / 16 ≤ y3 := by
    rcases hB with rfl | rfl
    · have h31 : n3 ≤ 1 := n_le b1 (Rat.le_refl) (by decide +kernel)
      have h32 : 1 ≤ n3 := n_ge b2 (Rat.le_refl) (by decide +kernel)
      have h33 : n3 = 1 := by omega
      subst h33
      have := b5 (by decide +kernel)
      rw [c3] at this
      grind
    · have h32 : 2 ≤ n3 := n_ge b2 (Rat.le_refl) (by decide +kernel)
      have g3 : (2 : Rat) ≤ n3 := by have := Rat.intCast_le_intCast.2 h32; grind
      have m3 := Rat.mul_le_mul_of_nonneg_right g3 (show 0 ≤ lnTwo by grind)
      grind
  have hpos : 0 < y3 := by grind
  have q1 : y2 / y3 ≤ 53 / 16 := div_le hpos (by grind)
  have q2 : -(27 / 16) ≤ y2 / y3 := le_div hpos (by grind)
  have t2 := lt_top32' (x := y2 / y3) (by grind) (by grind)
  obtain ⟨r2, w, f2, w2, j2⟩ := div_num h2 h3 (by grind) t2.1 t2.2
  have w1 := near_le j2 (rq32 53 16 4 false (53/16) (by decide) (by decide) (by decide) (by decide +kernel)) q1
  have w0 := near_ge j2 (rq32 27 16 4 true (-(27/16)) (by decide) (by decide) (by decide) (by decide +kernel)) q2
  have hn0 : (0 : Rat) ≤ (n : Rat) := Rat.natCast_nonneg
  have hnr : (n : Rat) ≤ 128 := Rat.natCast_le_natCast.2 hn128
  have t3 := lt_top32 (x := (n : Rat) + 1 - w) (by grind) (by grind)
  obtain ⟨r3, q, f3, q3, j3⟩ := sub_num u1 w2 t3.1 t3.2
  have er := near_err (B := 150) j3 (by grind) (by grind)
  have ee : 150 * ue FloatKind.f32.format + et FloatKind.f32.format ≤ 1 / 4096 := by decide +kernel
  generalize 150 * ue FloatKind.f32.format + et FloatKind.f32.format = E at *
  exact ⟨r2, r3, q, f2, f3, q3, by grind, by grind⟩
end Go.Proofs.Ytjhicedblobjfaa
