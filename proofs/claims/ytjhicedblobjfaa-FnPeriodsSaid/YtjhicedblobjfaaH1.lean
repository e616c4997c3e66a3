/- How far a number is from the set: the plain law over rationals. No program in sight. -/
import Derived.Test.YtjhicedblobjfaaE8
namespace Go.Proofs.Ytjhicedblobjfaa
open Ieee

theorem r4_32 : Rep FloatKind.f32.format 4 := num_rep four32
theorem long_out {a b p : Nat} {x y q : Rat} (h : CNum a b x y) (bx : Ab x 256) (bY : Ab y 256) (hp : powerF a b = some p) (np : NumK .f32 p q) (hq : 4 < q) :
    ∃ l v, longF a b = some l ∧ NumK .f32 l v ∧ 3 / 2 ≤ v ∧ v ≤ 1000 := by
  have c30 : (256 : Rat) ≤ 2 ^ (30 : Int) := by decide +kernel
  obtain ⟨r, m, q', e, n, k1, k2⟩ := powerF_num h bx bY c30
  rw [hp] at e
  cases e
  have hqq := num_unique np n
  subst hqq
  obtain ⟨l, m', s, v, e', n', k1', m0, hs, j, _⟩ := longF_num h bx bY c30
  have hm := near_unique k1 k1'
  subst hm
  have m4 : 4 ≤ m := by
    apply Classical.byContradiction; intro hn
    have := near_le k2 r4_32 (show m ≤ 4 by grind)
    grind
  have e20 : (256 * 256 + 256 * 256 : Rat) ≤ 2 ^ (18 : Int) := by decide +kernel
  have mb := near_ab k1 (rep_p2 .f64 (e := 18) (by decide)) (ab_mono (ab_add (ab_mul bx bx) (ab_mul bY bY)) e20)
  rcases hs with ⟨h0, _⟩ | ⟨_, s0, hr⟩
  · grind
  · obtain ⟨r1, r2⟩ := nearRoot_bd s0 hr
    have g1 : 2 ≤ s + s / 9007199254740992 := le_of_sq (by grind) (by grind)
    have g2 : s - s / 9007199254740992 ≤ 512 := by
      refine le_of_sq (by decide +kernel) ?_
      have e : (2 : Rat) ^ (18 : Int) = 512 * 512 := by decide +kernel
      have := mb.2
      grind
    refine ⟨l, v, e', n', near_ge j (rq32 3 2 1 false (3 / 2) (by decide) (by decide) (by decide) (by decide +kernel)) (by grind), near_le j (rq32 1000 1 0 false 1000 (by decide) (by decide) (by decide) (by decide +kernel)) (by grind)⟩

theorem long_half {a b : Nat} {x y : Rat} (h : CNum a b x y) (bx : Ab x (2 ^ (30 : Int))) (bY : Ab y (2 ^ (30 : Int))) (hh : 1 / 4 ≤ x * x + y * y) :
    ∃ l v, longF a b = some l ∧ NumK .f32 l v ∧ 1 / 4 ≤ v := by
  obtain ⟨l, m, s, v, e', n', k1, m0, hs, j, _⟩ := longF_num h bx bY (Rat.le_refl)
  have m4 : 1 / 4 ≤ m := near_ge k1 (rep_frac .f64 (c := 1) (d := 4) (l := 2) false (1 / 4) (by decide) (by decide) (by decide) (by decide +kernel)) hh
  rcases hs with ⟨h0, _⟩ | ⟨_, s0, hr⟩
  · grind
  · obtain ⟨r1, r2⟩ := nearRoot_bd s0 hr
    have g1 : 1 / 2 ≤ s + s / 9007199254740992 := le_of_sq (by grind) (by grind)
    exact ⟨l, v, e', n', near_ge j (rq32 1 4 2 false (1 / 4) (by decide) (by decide) (by decide) (by decide +kernel)) (by grind)⟩

theorem border_quot {l yl m : Nat} {v y mv : Rat} {n : Int} (hl : NumK .f32 l v) (hy : NumK .f32 yl y) (k : LogIs32 v n y) (v1 : 3 / 2 ≤ v) (v2 : v ≤ 1000) (hm : NumK .f32 m mv) (m1 : 1 / 4 ≤ mv) :
    ∃ p r rv, fmul .f32 l yl = some p ∧ fdiv .f32 p m = some r ∧ NumK .f32 r rv ∧ 0 ≤ rv := by
  obtain ⟨a1, a2, a3, a4, _⟩ := k
  have hn1 : n ≤ 10 := n_le a1 v2 (by decide +kernel)
  have hn2 : 1 ≤ n := n_ge a2 v1 (by decide +kernel)
  have hln := lnTwo_bd
  have c1 : ((10 : Int) : Rat) = 10 := rfl
  have c2 : ((1 : Int) : Rat) = 1 := rfl
  have g1 : (n : Rat) ≤ 10 := by have := Rat.intCast_le_intCast.2 hn1; grind
  have g2 : (1 : Rat) ≤ n := by have := Rat.intCast_le_intCast.2 hn2; grind
  have m1' := Rat.mul_le_mul_of_nonneg_right g1 (show 0 ≤ lnTwo by grind)
  have m2' := Rat.mul_le_mul_of_nonneg_right g2 (show 0 ≤ lnTwo by grind)
  have y0 : 0 ≤ y := by grind
  have y8 : y ≤ 8 := by grind
  have q0 : 0 ≤ v * y := Rat.mul_nonneg (by grind) y0
  have q1 := ab_mul (x := v) (y := y) (B := 1000) (C := 8) ⟨by grind, v2⟩ ⟨by grind, y8⟩
  have e8 : (1000 * 8 : Rat) = 8000 := by decide +kernel
  rw [e8] at q1
  have t1 := lt_top32 (x := v * y) (by have := q1.2; grind) (by grind)
  obtain ⟨p, z, e, nz, kz⟩ := mul_num hl hy t1.1 t1.2
  have z0 := near_ge kz (rep0 .f32) q0
  have z1 : z ≤ 8000 := near_le kz (rq32 8000 1 0 false 8000 (by decide) (by decide) (by decide) (by decide +kernel)) q1.2
  have mp : 0 < mv := by grind
  have d1 : z / mv ≤ 32000 := div_le mp (by grind)
  have d0 : 0 ≤ z / mv := le_div mp (by grind)
  have t2 := lt_top32' (x := z / mv) (by grind) (by grind)
  obtain ⟨r, rv, e2, nr, kr⟩ := div_num nz hm (by grind) t2.1 t2.2
  exact ⟨p, r, rv, e, e2, nr, near_ge kr (rep0 .f32) d0⟩

theorem leN_ab (k : Nat) {n : Int} (h : leN (149 + k) n = true) : Ab ((n : Rat) * 2 ^ (-149 : Int)) (2 ^ (k : Int)) := okN_ab k (leN_ok h)

theorem half_sq {s t : Int} (h : (leN 148 s && leN 148 t) = false) : 1 / 4 ≤ (s : Rat) * 2 ^ (-149 : Int) * ((s : Rat) * 2 ^ (-149 : Int)) + (t : Rat) * 2 ^ (-149 : Int) * ((t : Rat) * 2 ^ (-149 : Int)) := by
  have key : ∀ u : Int, leN 148 u = false → 1 / 4 ≤ (u : Rat) * 2 ^ (-149 : Int) * ((u : Rat) * 2 ^ (-149 : Int)) := by
    intro u hu
    have hn : ¬ u.natAbs ≤ 2 ^ 148 := by
      intro hle
      have : leN 148 u = true := by
        cases u with
        | ofNat m => exact Nat.ble_eq_true_of_le hle
        | negSucc m => exact Nat.ble_eq_true_of_le hle
      rw [this] at hu; cases hu
    have e : (((2 ^ 148 : Nat) : Int) : Rat) * 2 ^ (-149 : Int) = 1 / 2 := by decide +kernel
    have hp := p2_pos (-149)
    have sq : ∀ w : Rat, 1 / 2 ≤ w → 1 / 4 ≤ w * w := fun w hw => by
      have := sq_le (show (0 : Rat) ≤ 1 / 2 by decide +kernel) hw
      have e4 : (1 / 2 : Rat) * (1 / 2) = 1 / 4 := by decide +kernel
      grind
    rcases Int.le_total 0 u with h0 | h0
    · have h2 : ((2 ^ 148 : Nat) : Int) ≤ u := by omega
      have g := Rat.mul_le_mul_of_nonneg_right (Rat.intCast_le_intCast.2 h2) (Rat.le_of_lt hp)
      rw [e] at g
      exact sq _ g
    · have h2 : ((2 ^ 148 : Nat) : Int) ≤ -u := by omega
      have g := Rat.mul_le_mul_of_nonneg_right (Rat.intCast_le_intCast.2 h2) (Rat.le_of_lt hp)
      rw [e, Rat.intCast_neg, Rat.neg_mul] at g
      have := sq _ g
      grind
  rw [Bool.and_eq_false_iff] at h
  rcases h with h | h
  · have := key s h; have := sq_nonneg ((t : Rat) * 2 ^ (-149 : Int)); grind
  · have := key t h; have := sq_nonneg ((s : Rat) * 2 ^ (-149 : Int)); grind

/-- what BorderOf's walk ends with, over numbers -/
def BordGood (z d : Nat × Nat) : Prop :=
  (∃ p, powerF z.1 z.2 = some p ∧ outB p = false) ∨
  (∃ p l v m mv, powerF z.1 z.2 = some p ∧ outB p = true ∧ longF z.1 z.2 = some l ∧ NumK .f32 l v ∧ 3 / 2 ≤ v ∧ v ≤ 1000 ∧ longF d.1 d.2 = some m ∧ NumK .f32 m mv ∧ 1 / 4 ≤ mv)

theorem bordEnd_good {z d : Nat × Nat} {x y s t : Int} (h : BordEnd z d x y s t) : BordGood z d := by
  have hf := h.fine
  unfold endK at hf
  rw [Bool.and_eq_true] at hf
  cases hin : inK x y
  · rw [hin] at hf
    have hf2 := hf.2
    simp only [Bool.false_or, Bool.and_eq_true, Bool.not_eq_true'] at hf2
    obtain ⟨⟨⟨⟨l1, l2⟩, l3⟩, l4⟩, l5⟩ := hf2
    obtain ⟨p, q, e, np, hq, ho⟩ := out_ci h.z h.okz.1 h.okz.2 hin
    have e256 : (2 : Rat) ^ ((8 : Nat) : Int) = 256 := by decide +kernel
    have b1 := leN_ab 8 l1
    have b2 := leN_ab 8 l2
    rw [e256] at b1 b2
    obtain ⟨l, v, el, nl, v1, v2⟩ := long_out h.z.num b1 b2 e np hq
    obtain ⟨m, mv, em, nm, m1⟩ := long_half h.d.num (leN_ab 30 l3) (leN_ab 30 l4) (half_sq l5)
    exact Or.inr ⟨p, l, v, m, mv, e, ho, el, nl, v1, v2, em, nm, m1⟩
  · obtain ⟨p, e, ho⟩ := in_ci h.z h.okz.1 h.okz.2 hin
    exact Or.inl ⟨p, e, ho⟩
end Go.Proofs.Ytjhicedblobjfaa
