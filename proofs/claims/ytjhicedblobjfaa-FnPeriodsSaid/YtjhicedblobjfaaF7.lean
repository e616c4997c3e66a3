/- The orbits of points of eighths: no program in sight. -/
import Derived.Test.YtjhicedblobjfaaF6
import Derived.Test.YtjhicedblobjfaaE4
import Derived.Test.YtjhicedblobjfaaA7
namespace Go.Proofs.Ytjhicedblobjfaa
open Ieee

theorem rep_p33 (k : FloatKind) : Rep k.format (33 / 8) := rep_frac k (c := 33) (d := 8) (l := 3) false _ (by decide) rfl (by decide) (by decide +kernel)
theorem rep_n (k : FloatKind) (n : Nat) (h : n ≤ 2 ^ 24) (x : Rat) (hx : x = (n : Rat)) : Rep k.format x := hx ▸ rep_nat k h

theorem cst30 {B : Rat} (h : B ≤ 1000) : B ≤ 2 ^ (30 : Int) := Rat.le_trans h (by decide +kernel)
theorem cst126 {B : Rat} (h : B ≤ 1000) : B < 2 ^ (126 : Int) := by
  have : (1000 : Rat) < 2 ^ (126 : Int) := by decide +kernel
  grind

/-- a power of a number of not too large parts -/
theorem pow_bd {a b : Nat} {x y : Rat} (h : CNum a b x y) (hx : Ab x 11) (hy : Ab y 11) :
    ∃ p q, powerF a b = some p ∧ NumK .f32 p q ∧ 0 ≤ q ∧ q ≤ 256 ∧ (q ≤ 4 → x * x + y * y ≤ 33 / 8) := by
  obtain ⟨r, p, q, e, n, k1, k2⟩ := powerF_num h hx hy (cst30 (by decide +kernel))
  have h1 := sq_nonneg x; have h2 := sq_nonneg y
  have h3 := ab_mul hx hx; have h4 := ab_mul hy hy
  have h5 : x * x + y * y ≤ 256 := by have := h3.2; have := h4.2; grind
  have q0 : 0 ≤ q := near_ge k2 (rep0 .f32) (near_ge k1 (rep0 .f64) (by grind))
  have q1 : q ≤ 256 := near_le k2 (rep_n .f32 256 (by decide) _ (by decide +kernel)) (near_le k1 (rep_n .f64 256 (by decide) _ (by decide +kernel)) h5)
  refine ⟨r, q, e, n, q0, q1, fun hq => ?_⟩
  apply Classical.byContradiction
  intro hn
  have := near_ge k2 (rep_p33 .f32) (near_ge k1 (rep_p33 .f64) (show 33 / 8 ≤ x * x + y * y by grind))
  have h8 : (4 : Rat) < 33 / 8 := by decide +kernel
  grind

theorem part_of_pow {x y : Rat} (h : x * x + y * y ≤ 33 / 8) : Ab x (17 / 8) ∧ Ab y (17 / 8) := by
  have key : ∀ t : Rat, t * t ≤ 33 / 8 → Ab t (17 / 8) := by
    intro t ht
    have e : (33 / 8 : Rat) ≤ 17 / 8 * (17 / 8) := by decide +kernel
    have h1 := le_of_sq (a := t) (b := 17 / 8) (by decide +kernel) (Rat.le_trans ht e)
    have h2 := le_of_sq (a := -t) (b := 17 / 8) (by decide +kernel) (by have := Rat.le_trans ht e; grind)
    constructor <;> grind
  have := sq_nonneg x; have := sq_nonneg y
  exact ⟨key x (by grind), key y (by grind)⟩

theorem sq_parts {x y : Rat} (h : x * x + y * y ≤ 33 / 8) : Ab (x * x - y * y) (33 / 8) ∧ Ab (x * y + y * x) (33 / 8) := by
  have h1 := sq_nonneg x; have h2 := sq_nonneg y
  have h3 := sq_nonneg (x + y); have h4 := sq_nonneg (x - y)
  refine ⟨⟨?_, ?_⟩, ⟨?_, ?_⟩⟩ <;> grind

/-- a square of a number that is not out -/
theorem sq_bd {a b : Nat} {x y : Rat} (h : CNum a b x y) (hp : x * x + y * y ≤ 33 / 8) :
    ∃ r p q, mulF a b a b = some r ∧ CNum r.1 r.2 p q ∧ Ab p (33 / 8) ∧ Ab q (33 / 8) ∧ Ab (p - (x * x - y * y)) (1 / 1000000) ∧ Ab (q - 2 * (x * y)) (1 / 1000000) := by
  obtain ⟨bx, bY⟩ := part_of_pow hp
  obtain ⟨r, m, n, p, q, e, c, k1, k2, j1, j2⟩ := mulF_num h h bx bY bx bY (cst30 (by decide +kernel))
  obtain ⟨s1, s2⟩ := sq_parts hp
  have m1 := near_ab k1 (rep_p33 .f64) s1
  have m2 := near_ab k2 (rep_p33 .f64) s2
  have e1 := near64_err k1 s1
  have e2 := near64_err k2 s2
  have e3 := near32_err j1 m1
  have e4 := near32_err j2 m2
  refine ⟨r, p, q, e, c, near_ab j1 (rep_p33 .f32) m1, near_ab j2 (rep_p33 .f32) m2, ?_, ?_⟩
  · constructor
    · have := e1.1; have := e3.1; grind
    · have := e1.2; have := e3.2; grind
  · constructor
    · have := e2.1; have := e4.1; grind
    · have := e2.2; have := e4.2; grind

theorem add_bd {a b ca cb : Nat} {x y cx cy : Rat} (h : CNum a b x y) (hc : CNum ca cb cx cy) (bx : Ab x 9) (bY : Ab y 9) (dx : Ab cx 2) (dy : Ab cy 2) :
    ∃ r u v, addF a b ca cb = some r ∧ CNum r.1 r.2 u v ∧ Ab u 11 ∧ Ab v 11 := by
  have s1 := ab_add bx dx
  have s2 := ab_add bY dy
  obtain ⟨r, p, q, e, c, k1, k2⟩ := addF_num h hc s1 s2 (cst126 (by decide +kernel))
  have r11 : Rep FloatKind.f32.format (9 + 2) := rep_n .f32 11 (by decide) _ (by decide +kernel)
  have e11 : (9 + 2 : Rat) = 11 := by decide +kernel
  exact ⟨r, p, q, e, c, e11 ▸ near_ab k1 r11 s1, e11 ▸ near_ab k2 r11 s2⟩

theorem cube_bd {x y : Rat} (h : x * x + y * y ≤ 33 / 8) : Ab ((x * x - y * y) * x - 2 * (x * y) * y) (17 / 2) ∧ Ab ((x * x - y * y) * y + 2 * (x * y) * x) (17 / 2) := by
  have key : ∀ u v : Rat, u * u + v * v ≤ 17 / 2 * (17 / 2) → Ab u (17 / 2) := by
    intro u v huv
    have hv := sq_nonneg v
    have h1 := le_of_sq (a := u) (b := 17 / 2) (by decide +kernel) (by grind)
    have h2 := le_of_sq (a := -u) (b := 17 / 2) (by decide +kernel) (by grind)
    constructor <;> grind
  have hs0 : 0 ≤ x * x + y * y := by have := sq_nonneg x; have := sq_nonneg y; grind
  have hs2 : (x * x + y * y) * (x * x + y * y) ≤ 33 / 8 * (33 / 8) := sq_le hs0 h
  have hs3 : (x * x + y * y) * (x * x + y * y) * (x * x + y * y) ≤ 17 / 2 * (17 / 2) := by
    have h1 := Rat.mul_le_mul_of_nonneg_right hs2 hs0
    have h2 := Rat.mul_le_mul_of_nonneg_left h (show (0 : Rat) ≤ 33 / 8 * (33 / 8) by decide +kernel)
    have h3 : (33 / 8 * (33 / 8) * (33 / 8) : Rat) ≤ 17 / 2 * (17 / 2) := by decide +kernel
    exact Rat.le_trans h1 (Rat.le_trans h2 h3)
  generalize hR : (x * x - y * y) * x - 2 * (x * y) * y = R
  generalize hI : (x * x - y * y) * y + 2 * (x * y) * x = I
  have e : R * R + I * I = (x * x + y * y) * (x * x + y * y) * (x * x + y * y) := by subst hR; subst hI; grind
  exact ⟨key R I (by rw [e]; exact hs3), key I R (by rw [Rat.add_comm, e]; exact hs3)⟩

theorem once_bd {k : Int} (hk0 : 0 ≤ k) (hk : k ≤ 3) {ca cb a b : Nat} {cx cy x y : Rat} (hc : CNum ca cb cx cy) (dx : Ab cx 2) (dy : Ab cy 2) (h : CNum a b x y) (hp : x * x + y * y ≤ 33 / 8) :
    ∃ r u v, onceF k ca cb a b = some r ∧ CNum r.1 r.2 u v ∧ Ab u 11 ∧ Ab v 11 := by
  have c9 : (33 / 8 : Rat) ≤ 9 := by decide +kernel
  rcases (by omega : k = 0 ∨ k = 1 ∨ k = 2 ∨ k = 3) with rfl | rfl | rfl | rfl
  · obtain ⟨r, p, q, e, c, b1, b2, _, _⟩ := sq_bd h hp
    obtain ⟨s, u, v, e2, c2, d1, d2⟩ := add_bd c hc (ab_mono b1 c9) (ab_mono b2 c9) dx dy
    exact ⟨s, u, v, by simp [onceF, e, e2], c2, d1, d2⟩
  · obtain ⟨r, p, q, e, c, b1, b2, g1, g2⟩ := sq_bd h hp
    obtain ⟨bx, bY⟩ := part_of_pow hp
    have c5 : (33 / 8 : Rat) ≤ 5 := by decide +kernel
    have c3 : (17 / 8 : Rat) ≤ 5 := by decide +kernel
    obtain ⟨t, m, n, pp, qq, e3, c3, k1, k2, j1, j2⟩ := mulF_num c h (ab_mono b1 c5) (ab_mono b2 c5) (ab_mono bx c3) (ab_mono bY c3) (cst30 (by decide +kernel))
    obtain ⟨w1, w2⟩ := cube_bd hp
    have x1 := ab_mul g1 bx; have x2 := ab_mul g2 bY; have x3 := ab_mul g1 bY; have x4 := ab_mul g2 bx
    have i1 : p * x - q * y = ((x * x - y * y) * x - 2 * (x * y) * y) + (p - (x * x - y * y)) * x - (q - 2 * (x * y)) * y := by grind
    have i2 : p * y + q * x = ((x * x - y * y) * y + 2 * (x * y) * x) + (p - (x * x - y * y)) * y + (q - 2 * (x * y)) * x := by grind
    have s1 : Ab (p * x - q * y) 9 := by
      rw [i1]
      generalize (p - (x * x - y * y)) * x = A at *
      generalize (q - 2 * (x * y)) * y = B at *
      generalize (x * x - y * y) * x - 2 * (x * y) * y = C at *
      constructor
      · have := w1.1; have := x1.1; have := x2.2; grind
      · have := w1.2; have := x1.2; have := x2.1; grind
    have s2 : Ab (p * y + q * x) 9 := by
      rw [i2]
      generalize (p - (x * x - y * y)) * y = A at *
      generalize (q - 2 * (x * y)) * x = B at *
      generalize (x * x - y * y) * y + 2 * (x * y) * x = C at *
      constructor
      · have := w2.1; have := x3.1; have := x4.1; grind
      · have := w2.2; have := x3.2; have := x4.2; grind
    have r9 : ∀ k : FloatKind, Rep k.format 9 := fun k => rep_n k 9 (by decide) _ (by decide +kernel)
    obtain ⟨s, u, v, e2, c2, d1, d2⟩ := add_bd c3 hc (near_ab j1 (r9 _) (near_ab k1 (r9 _) s1)) (near_ab j2 (r9 _) (near_ab k2 (r9 _) s2)) dx dy
    exact ⟨s, u, v, by simp [onceF, e, e3, e2], c2, d1, d2⟩
  · obtain ⟨bx, bY⟩ := part_of_pow hp
    have c61 : (17 / 8 : Rat) ≤ 2 ^ (61 : Int) := by decide +kernel
    obtain ⟨sa, ua, ea, na, a1, a2, a0⟩ := sizeF_num h.1 (ab_mono bx c61)
    obtain ⟨sb, ub, eb, nb, b1', b2', b0⟩ := sizeF_num h.2 (ab_mono bY c61)
    have sqa : ua * ua = x * x := by
      rcases Rat.le_total (a := 0) (b := x) with h0 | h0
      · rw [a1 h0]
      · rw [a2 h0]; grind
    have sqb : ub * ub = y * y := by
      rcases Rat.le_total (a := 0) (b := y) with h0 | h0
      · rw [b1' h0]
      · rw [b2' h0]; grind
    obtain ⟨r, p, q, e, c, b1, b2, _, _⟩ := sq_bd (show CNum sa sb ua ub from ⟨na, nb⟩) (by rw [sqa, sqb]; exact hp)
    obtain ⟨s, u, v, e2, c2, d1, d2⟩ := add_bd c hc (ab_mono b1 c9) (ab_mono b2 c9) dx dy
    exact ⟨s, u, v, by simp [onceF, ea, eb, e, e2], c2, d1, d2⟩
  · have h' : CNum a (Op.negFloat .f32 b) x (-y) := ⟨h.1, neg_num h.2⟩
    obtain ⟨r, p, q, e, c, b1, b2, _, _⟩ := sq_bd h' (by grind)
    obtain ⟨s, u, v, e2, c2, d1, d2⟩ := add_bd c hc (ab_mono b1 c9) (ab_mono b2 c9) dx dy
    exact ⟨s, u, v, by simp [onceF, e, e2], c2, d1, d2⟩
end Go.Proofs.Ytjhicedblobjfaa
