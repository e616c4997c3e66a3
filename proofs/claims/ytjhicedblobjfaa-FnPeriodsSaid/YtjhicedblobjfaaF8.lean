/- Escapes of points of eighths. No program in sight. -/
import Derived.Test.YtjhicedblobjfaaF7
namespace Go.Proofs.Ytjhicedblobjfaa
open Ieee

theorem ab_small {a b : Nat} {x y B : Rat} (h : CNum a b x y) (hx : Ab x B) (hy : Ab y B) (hB : B ≤ 1000) : SmallC a b := ⟨x, y, h, ab_mono hx hB, ab_mono hy hB⟩
theorem cnum_fin {a b : Nat} {x y : Rat} (h : CNum a b x y) : Fin32 a ∧ Fin32 b := ⟨⟨x, h.1⟩, ⟨y, h.2⟩⟩
theorem num4 : NumK .f32 1082130432 4 := num_lit .f32 1082130432 false 8388608 (-21) 4 (by kernel_rfl) (by kernel_rfl)

/-- what an escape tells -/
structure EscGood (k : Int) (ca cb a b f i n : Nat) (L : List (Nat × Nat)) : Prop where
  le : n ≤ f
  orb : Orb k ca cb a b n L
  esc : escF k ca cb f i a b = some (i + n, (L.getD n (0, 0)).1, (L.getD n (0, 0)).2)
  pow : ∀ j, j ≤ n → ∃ p q, powerF (L.getD j (0, 0)).1 (L.getD j (0, 0)).2 = some p ∧ NumK .f32 p q ∧ (j < n → q ≤ 4) ∧ (j = n → n < f → 4 < q ∧ q ≤ 256)

theorem esc_good {k : Int} (hk0 : 0 ≤ k) (hk : k ≤ 3) {ca cb : Nat} {cx cy : Rat} (hc : CNum ca cb cx cy) (dx : Ab cx 2) (dy : Ab cy 2) :
    ∀ (f i : Nat) {a b : Nat} {x y : Rat}, CNum a b x y → Ab x 11 → Ab y 11 → ∃ n L, EscGood k ca cb a b f i n L
  | 0, i, a, b, x, y, h, hx, hy => by
    obtain ⟨p, q, e, n, q0, q1, _⟩ := pow_bd h hx hy
    refine ⟨0, [(a, b)], Nat.le_refl 0, ⟨rfl, rfl, fun j hj => absurd hj (by omega), fun j hj => absurd hj (by omega), fun j hj => ?_⟩, rfl, fun j hj => ?_⟩
    · obtain rfl : j = 0 := by omega
      exact cnum_fin h
    · obtain rfl : j = 0 := by omega
      exact ⟨p, q, e, n, fun hj => absurd hj (by omega), fun _ hj => absurd hj (by omega)⟩
  | f + 1, i, a, b, x, y, h, hx, hy => by
    obtain ⟨p, q, e, n, q0, q1, hq⟩ := pow_bd h hx hy
    have ho := outB_num n
    by_cases h4 : 4 < q
    · have ho' : outB p = true := by rw [ho]; simpa using h4
      refine ⟨0, [(a, b)], by omega, ⟨rfl, rfl, fun j hj => absurd hj (by omega), fun j hj => absurd hj (by omega), fun j hj => ?_⟩, ?_, fun j hj => ?_⟩
      · obtain rfl : j = 0 := by omega
        exact cnum_fin h
      · simp [escF, e, ho']
      · obtain rfl : j = 0 := by omega
        exact ⟨p, q, e, n, fun hj => absurd hj (by omega), fun _ _ => ⟨h4, q1⟩⟩
    · have h4' : q ≤ 4 := by grind
      have ho' : outB p = false := by rw [ho]; simpa using h4
      obtain ⟨r, u, v, e2, c2, d1, d2⟩ := once_bd hk0 hk hc dx dy h (hq h4')
      obtain ⟨m, L, G⟩ := esc_good hk0 hk hc dx dy f (i + 1) c2 d1 d2
      refine ⟨m + 1, (a, b) :: L, by have := G.le; omega, ⟨by simp [G.orb.len], rfl, fun j hj => ?_, fun j hj => ?_, fun j hj => ?_⟩, ?_, fun j hj => ?_⟩
      · match j with
        | 0 => have := G.orb.first; simp only [List.getD_cons_zero, List.getD_cons_succ, this]; exact e2
        | j + 1 => simp only [List.getD_cons_succ]; exact G.orb.next j (by omega)
      · match j with
        | 0 => exact ab_small h hx hy (by decide +kernel)
        | j + 1 => simp only [List.getD_cons_succ]; exact G.orb.small j (by omega)
      · match j with
        | 0 => exact cnum_fin h
        | j + 1 => simp only [List.getD_cons_succ]; exact G.orb.fin j (by omega)
      · have hG := G.esc
        have e3 : i + (m + 1) = i + 1 + m := by omega
        simp only [List.getD_cons_succ, e3, escF, e, ho', Option.bind_eq_bind, Option.bind_some, Bool.false_eq_true, if_false, e2]
        exact hG
      · match j with
        | 0 => exact ⟨p, q, e, n, fun _ => h4', fun hj => absurd hj (by omega)⟩
        | j + 1 =>
          simp only [List.getD_cons_succ]
          obtain ⟨p', q', g1, g2, g3, g4⟩ := G.pow j (by omega)
          exact ⟨p', q', g1, g2, fun hj => g3 (by omega), fun hj hf => g4 (by omega) (by omega)⟩

/-! ### one step backwards -/
theorem half32n : NumK .f32 1056964608 (1 / 2) := num_lit .f32 1056964608 false 8388608 (-24) _ (by kernel_rfl) (by kernel_rfl)

theorem rootPartF_num {a : Nat} {T : Rat} (h : NumK .f32 a T) (hT : T ≤ 23 / 2) (hT0 : -1 / 500000 ≤ T) :
    ∃ r u, rootPartF a = some r ∧ NumK .f32 r u ∧ Ab (u * u - T / 2) (5 / 2000000) ∧ 0 ≤ u ∧ u ≤ 5 / 2 := by
  have b1 : Ab (1 / 2 * T) 6 := ⟨by grind, by grind⟩
  have t1 := ab_top .f32 b1 (cst126 (by decide +kernel))
  obtain ⟨x, X, e, n, k⟩ := mul_num half32n h t1.1 t1.2
  have hx := near_ab k (rep_n .f32 6 (by decide) _ (by decide +kernel)) b1
  have c61 : (6 : Rat) ≤ 2 ^ (61 : Int) := by decide +kernel
  have e' : fmul .f32 1056964608 a = some x := e
  by_cases h0 : X < 0
  · obtain ⟨r, s, l, f, m, hs, hn, l0⟩ := rootNumF_num num0 (Rat.le_refl) (Rat.le_trans (by decide +kernel) c61)
    have := part_bd hT hT0 k (Or.inl ⟨h0, rfl⟩) ⟨s, hs, hn, l0⟩
    refine ⟨r, l, ?_, m, this⟩
    simp only [rootPartF, e', Option.bind_eq_bind, Option.bind_some, ord_lt n num0 h0, if_true]
    exact f
  · have h0' : 0 ≤ X := by grind
    obtain ⟨r, s, l, f, m, hs, hn, l0⟩ := rootNumF_num n h0' (Rat.le_trans hx.2 c61)
    have := part_bd hT hT0 k (Or.inr ⟨h0', rfl⟩) ⟨s, hs, hn, l0⟩
    refine ⟨r, l, ?_, m, this⟩
    simp only [rootPartF, e', Option.bind_eq_bind, Option.bind_some, ord_nlt n num0 h0']
    simp [f]

theorem lo {x y : Rat} (h : Near FloatKind.f32.format x y) (hx : -1 / 1000000 ≤ x) : -1 / 500000 ≤ y := by
  have hr : Rep FloatKind.f32.format (-(2 ^ (-19 : Int))) := rep_neg (rep_p2 .f32 (by decide))
  have e1 : -(2 ^ (-19 : Int)) ≤ (-1 / 1000000 : Rat) := by decide +kernel
  have e2 : (-1 / 500000 : Rat) ≤ -(2 ^ (-19 : Int)) := by decide +kernel
  exact Rat.le_trans e2 (near_ge h hr (Rat.le_trans e1 hx))

/-- the root of a number, with its parts' sizes u and v -/
theorem rootF_num {a b : Nat} {X Y : Rat} (h : CNum a b X Y) (hX : Ab X (9 / 2)) (hY : Ab Y (9 / 2)) :
    ∃ r p q, rootF a b = some r ∧ CNum r.1 r.2 p q ∧ Ab p (5 / 2) ∧ Ab q (5 / 2) ∧ Ab (p * p - q * q - X) (1 / 100000) ∧ Ab (2 * (p * q) - Y) (1 / 105) := by
  obtain ⟨l, P, s, L, e1, n1, k1, p0, hs, hl, l0⟩ := longF_num h hX hY (cst30 (by decide +kernel))
  obtain ⟨g1, g2, g3, g4, g5⟩ := long_bd (num_rep h.1) hX hY k1 ⟨s, hs, hl, l0⟩
  have b1 : Ab (L + X) 11 := ⟨by have := hX.1; grind, by have := hX.2; grind⟩
  have b2 : Ab (L - X) 11 := ⟨by have := hX.2; grind, by have := hX.1; grind⟩
  have t1 := ab_top .f32 b1 (cst126 (by decide +kernel))
  have t2 := ab_top .f32 b2 (cst126 (by decide +kernel))
  obtain ⟨s1, T1, e2, n2, k2⟩ := add_num n1 h.1 t1.1 t1.2
  obtain ⟨s2, T2, e3, n3, k3⟩ := sub_num n1 h.1 t2.1 t2.2
  have r1 := near32_err k2 b1
  have r2 := near32_err k3 b2
  have a1 : Ab (T1 - (L + X)) (8 / 10000000) := ab_mono r1 (by decide +kernel)
  have a2 : Ab (T2 - (L - X)) (8 / 10000000) := ab_mono r2 (by decide +kernel)
  obtain ⟨u, U, e4, n4, c1, u0, u1⟩ := rootPartF_num n2 (by have := a1.2; have := b1.2; grind) (lo k2 (by grind))
  obtain ⟨v, V, e5, n5, c2, v0, v1⟩ := rootPartF_num n3 (by have := a2.2; have := b2.2; grind) (lo k3 (by grind))
  have bu : Ab U (5 / 2) := ⟨by grind, u1⟩
  have bv : Ab V (5 / 2) := ⟨by grind, v1⟩
  obtain ⟨w1, w2, w3⟩ := square_bd g1 g3 g4 g5 a1 a2 c1 c2 u0 v0
  by_cases hb : Y < 0
  · refine ⟨(u, Op.negFloat .f32 v), U, -V, ?_, ⟨n4, neg_num n5⟩, bu, ab_neg bv, ?_, ?_⟩
    · simp only [rootF, e1, e2, e3, e4, e5, Option.bind_eq_bind, Option.bind_some, ord_lt h.2 num0 hb]; rfl
    · rw [show -V * -V = V * V by grind]; exact w1
    · have := w3 (by grind)
      rw [show 2 * (U * -V) - Y = -(2 * (U * V) + Y) by grind]
      exact ab_neg this
  · refine ⟨(u, v), U, V, ?_, ⟨n4, n5⟩, bu, bv, w1, w2 (by grind)⟩
    simp only [rootF, e1, e2, e3, e4, e5, Option.bind_eq_bind, Option.bind_some, ord_nlt h.2 num0 (show 0 ≤ Y by grind)]; rfl

/-- one step of a walk backwards -/
structure BackGood (ca cb : Nat) (odd : Bool) (z z' : Nat × Nat) : Prop where
  back : backF ca cb odd z.1 z.2 = some z'
  small : SmallC z'.1 z'.2
  once : ∃ u, onceF 0 ca cb z'.1 z'.2 = some u ∧ Fin32 u.1 ∧ Fin32 u.2 ∧ NearBy (1 / 100) u z

theorem neg32_num {b : Nat} {v : Rat} (h : NumK .f32 b v) : NumK .f32 (Op.negFloat .f32 b) (-v) := neg_num h

theorem back_good {ca cb a b : Nat} {cx cy x y : Rat} (odd : Bool) (hc : CNum ca cb cx cy) (dx : Ab cx 2) (dy : Ab cy 2) (h : CNum a b x y) (bx : Ab x (5 / 2)) (bY : Ab y (5 / 2)) :
    ∃ z' p q, BackGood ca cb odd (a, b) z' ∧ CNum z'.1 z'.2 p q ∧ Ab p (5 / 2) ∧ Ab q (5 / 2) := by
  have c92 : (5 / 2 + 2 : Rat) = 9 / 2 := by decide +kernel
  have s1 := ab_sub bx dx
  have s2 := ab_sub bY dy
  rw [c92] at s1 s2
  obtain ⟨d, X, Y, e1, n1, k1, k2⟩ := subF_num h hc s1 s2 (cst126 (by decide +kernel))
  have r92 : Rep FloatKind.f32.format (9 / 2) := rep_frac .f32 (c := 9) (d := 2) (l := 1) false _ (by decide) rfl (by decide) (by decide +kernel)
  have bX := near_ab k1 r92 s1
  have bYY := near_ab k2 r92 s2
  have f1 := ab_mono (near32_err k1 s1) (show _ ≤ (1 / 1000000 : Rat) by decide +kernel)
  have f2 := ab_mono (near32_err k2 s2) (show _ ≤ (1 / 1000000 : Rat) by decide +kernel)
  obtain ⟨r, p, q, e2, n2, bp, bq, w1, w2⟩ := rootF_num n1 bX bYY
  -- the number, its sign turned or not
  have key : ∃ z' p' q', backF ca cb odd a b = some z' ∧ CNum z'.1 z'.2 p' q' ∧ Ab p' (5 / 2) ∧ Ab q' (5 / 2) ∧ Ab (p' * p' - q' * q' - X) (1 / 100000) ∧ Ab (2 * (p' * q') - Y) (1 / 105) := by
    cases odd
    · exact ⟨r, p, q, by simp [backF, e1, e2], n2, bp, bq, w1, w2⟩
    · exact ⟨_, -p, -q, by simp [backF, e1, e2]; rfl, ⟨neg32_num n2.1, neg32_num n2.2⟩, ab_neg bp, ab_neg bq, by rw [show -p * -p - -q * -q = p * p - q * q by grind]; exact w1, by rw [show -p * -q = p * q by grind]; exact w2⟩
  clear w1 w2 bp bq n2 e2
  obtain ⟨z', p, q, e2, n2, bp, bq, w1, w2⟩ := key
  obtain ⟨m, M, N, P, Q, e3, n3, j1, j2, j3, j4⟩ := mulF_num n2 n2 bp bq bp bq (cst30 (by decide +kernel))
  have bM : Ab (p * p - q * q) 5 := ⟨by have := w1.1; have := bX.1; grind, by have := w1.2; have := bX.2; grind⟩
  have bN : Ab (p * q + q * p) 5 := ⟨by have := w2.1; have := bYY.1; grind, by have := w2.2; have := bYY.2; grind⟩
  have r5 : ∀ k : FloatKind, Rep k.format 5 := fun k => rep_n k 5 (by decide) _ (by decide +kernel)
  have bM1 := near_ab j1 (r5 _) bM
  have bN1 := near_ab j2 (r5 _) bN
  have g1 := ab_mono (near64_err j1 bM) (show _ ≤ (1 / 10000000 : Rat) by decide +kernel)
  have g2 := ab_mono (near64_err j2 bN) (show _ ≤ (1 / 10000000 : Rat) by decide +kernel)
  have g3 := ab_mono (near32_err j3 bM1) (show _ ≤ (1 / 1000000 : Rat) by decide +kernel)
  have g4 := ab_mono (near32_err j4 bN1) (show _ ≤ (1 / 1000000 : Rat) by decide +kernel)
  have bP := near_ab j3 (r5 _) bM1
  have bQ := near_ab j4 (r5 _) bN1
  have s3 := ab_add bP dx
  have s4 := ab_add bQ dy
  have c7 : (5 + 2 : Rat) = 7 := by decide +kernel
  rw [c7] at s3 s4
  obtain ⟨u, U, V, e4, n4, i1, i2⟩ := addF_num n3 hc s3 s4 (cst126 (by decide +kernel))
  have g5 := ab_mono (near32_err i1 s3) (show _ ≤ (1 / 1000000 : Rat) by decide +kernel)
  have g6 := ab_mono (near32_err i2 s4) (show _ ≤ (1 / 1000000 : Rat) by decide +kernel)
  have t1 : Ab (U - x) (1 / 50000) := by
    constructor
    · have := g5.1; have := g3.1; have := g1.1; have := w1.1; have := f1.1; grind
    · have := g5.2; have := g3.2; have := g1.2; have := w1.2; have := f1.2; grind
  have t2 : Ab (V - y) (2 / 205) := by
    constructor
    · have := g6.1; have := g4.1; have := g2.1; have := w2.1; have := f2.1; grind
    · have := g6.2; have := g4.2; have := g2.2; have := w2.2; have := f2.2; grind
  have t1' := ab_mono t1 (show _ ≤ (1 : Rat) by decide +kernel)
  have t2' := ab_mono t2 (show _ ≤ (1 : Rat) by decide +kernel)
  obtain ⟨e, E, F, e5, n5, o1, o2⟩ := subF_num n4 h t1' t2' (cst126 (by decide +kernel))
  have g7 := near32_err o1 t1
  have g8 := near32_err o2 t2
  have bE : Ab E (1 / 45000) := by
    constructor
    · have := t1.1; have := g7.1; grind
    · have := t1.2; have := g7.2; grind
  have bF : Ab F (2 / 204) := by
    constructor
    · have := t2.1; have := g8.1; grind
    · have := t2.2; have := g8.2; grind
  obtain ⟨lb, LP, s, l, e6, n6, k6, p0, hs, hl, l0⟩ := longF_num n5 (ab_mono bE (show _ ≤ (2 / 204 : Rat) by decide +kernel)) bF (cst30 (by decide +kernel))
  have hEE := ab_mul bE bE
  have hFF := ab_mul bF bF
  have k7 := near64_err k6 (ab_mono (ab_add hEE hFF) (show _ ≤ (1 : Rat) by decide +kernel))
  have hLP : LP ≤ 97 / 1000000 := by have := hEE.2; have := hFF.2; have := k7.2; grind
  have bLP : l ≤ 1 / 100 := by
    obtain ⟨q1, _, _⟩ := root32_bd (S := 1) ⟨s, hs, hl, l0⟩ (Rat.le_refl) (by grind)
    refine le_of_sq (by decide +kernel) ?_
    have := q1.2
    grind
  refine ⟨z', p, q, ⟨e2, ab_small n2 bp bq (by decide +kernel), u, ?_, ⟨_, n4.1⟩, ⟨_, n4.2⟩, ⟨e, lb, l, e5, e6, n6, bLP⟩⟩, n2, bp, bq⟩
  simp [onceF, e3, e4]
end Go.Proofs.Ytjhicedblobjfaa
