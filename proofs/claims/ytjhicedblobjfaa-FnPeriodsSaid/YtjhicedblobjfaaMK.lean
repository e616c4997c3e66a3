/- Quotients of complex numbers as a partial function of bits, and in the integer model. No program in sight. · Steps to roots: a partial function of bits, the integer model, and what is near a root of one. -/
import Derived.Test.YtjhicedblobjfaaML
namespace Go.Proofs.Ytjhicedblobjfaa
open Ieee

def quotF (a b c d : Nat) : Option (Nat × Nat) := do
  let x ← widen a; let y ← widen b; let z ← widen c; let t ← widen d
  let u ← timesF x y z (Op.negFloat .f64 t)
  let p ← powF c d
  let q ← fdiv .f64 u.1 p; let r ← narrow q
  let s ← fdiv .f64 u.2 p; let i ← narrow s
  pure (r, i)

/-! ### numbers below 2^68 -/
/-- |n| ≤ 2^217: below 2^68 -/
noncomputable def leW (n : Int) : Bool := leN 217 n
theorem leW_ab {n : Int} (h : leW n = true) : Ab ((n : Rat) * 2 ^ (-149 : Int)) (2 ^ (68 : Int)) := okN_ab 68 (leN_ok (k := 217) h)
theorem ab_top64 {x B : Rat} (h : Ab x B) (hB : B < 2 ^ (1000 : Int)) : x < 2 ^ top FloatKind.f64.format ∧ -2 ^ top FloatKind.f64.format < x := by
  have h1 := p2_lt (show (1000 : Int) < top FloatKind.f64.format by decide)
  have := h.1; have := h.2
  constructor <;> grind
theorem mul64_wide {a b : Nat} {x y : Rat} (ha : NumK .f64 a x) (hb : NumK .f64 b y) (hx : Rep FloatKind.f32.format x) (hy : Rep FloatKind.f32.format y)
    {B : Rat} (h : Ab (x * y) B) (hB : B < 2 ^ (1000 : Int)) : ∃ r, fmul .f64 a b = some r ∧ NumK .f64 r (x * y) := by
  have ht := ab_top64 h hB
  obtain ⟨r, z, h1, h2, h3⟩ := mul_num ha hb ht.1 ht.2
  have := near_exact h3 (rep_mul32 hx hy)
  subst this
  exact ⟨r, h1, h2⟩
theorem timesF_wide {a b c d : Nat} {x y z t B C : Rat} (ha : NumK .f64 a x) (hb : NumK .f64 b y) (hc : NumK .f64 c z) (hd : NumK .f64 d t)
    (rx : Rep FloatKind.f32.format x) (ry : Rep FloatKind.f32.format y) (rz : Rep FloatKind.f32.format z) (rt : Rep FloatKind.f32.format t)
    (bx : Ab x B) (bY : Ab y B) (bz : Ab z C) (bt : Ab t C) (hB : B * C + B * C < 2 ^ (1000 : Int)) :
    ∃ r p q, timesF a b c d = some r ∧ NumK .f64 r.1 p ∧ NumK .f64 r.2 q ∧ Near FloatKind.f64.format (x * z - y * t) p ∧ Near FloatKind.f64.format (x * t + y * z) q := by
  have hBC : 0 ≤ B * C := Rat.mul_nonneg (ab_nonneg bx) (ab_nonneg bz)
  have hB1 : B * C < 2 ^ (1000 : Int) := by grind
  obtain ⟨r1, e1, n1⟩ := mul64_wide ha hc rx rz (ab_mul bx bz) hB1
  obtain ⟨r2, e2, n2⟩ := mul64_wide hb hd ry rt (ab_mul bY bt) hB1
  obtain ⟨r3, e3, n3⟩ := mul64_wide ha hd rx rt (ab_mul bx bt) hB1
  obtain ⟨r4, e4, n4⟩ := mul64_wide hb hc ry rz (ab_mul bY bz) hB1
  have t1 := ab_top64 (ab_sub (ab_mul bx bz) (ab_mul bY bt)) hB
  have t2 := ab_top64 (ab_add (ab_mul bx bt) (ab_mul bY bz)) hB
  obtain ⟨s1, p, f1, m1, k1⟩ := sub_num n1 n2 t1.1 t1.2
  obtain ⟨s2, q, f2, m2, k2⟩ := add_num n3 n4 t2.1 t2.2
  exact ⟨(s1, s2), p, q, by simp [timesF, mulReF, mulImF, e1, e2, e3, e4, f1, f2], m1, m2, k1, k2⟩
theorem powF_wide {a b : Nat} {x y B : Rat} (h : CNum a b x y) (bx : Ab x B) (bY : Ab y B) (hB : B * B + B * B < 2 ^ (1000 : Int)) :
    ∃ r p, powF a b = some r ∧ NumK .f64 r p ∧ Near FloatKind.f64.format (x * x + y * y) p := by
  obtain ⟨wa, ea, na, _⟩ := widen_num h.1
  obtain ⟨wb, eb, nb, _⟩ := widen_num h.2
  have hBC : 0 ≤ B * B := Rat.mul_nonneg (ab_nonneg bx) (ab_nonneg bx)
  have hB1 : B * B < 2 ^ (1000 : Int) := by grind
  obtain ⟨r1, e1, n1⟩ := mul64_wide na na (num_rep h.1) (num_rep h.1) (ab_mul bx bx) hB1
  obtain ⟨r2, e2, n2⟩ := mul64_wide nb nb (num_rep h.2) (num_rep h.2) (ab_mul bY bY) hB1
  have t2 := ab_top64 (ab_add (ab_mul bx bx) (ab_mul bY bY)) hB
  obtain ⟨s2, q, f2, m2, k2⟩ := add_num n1 n2 t2.1 t2.2
  exact ⟨s2, q, by simp [powF, ea, eb, e1, e2, f2], m2, k2⟩
theorem big68 : (2 : Rat) ^ (68 : Int) * 2 ^ (68 : Int) + 2 ^ (68 : Int) * 2 ^ (68 : Int) ≤ 2 ^ (140 : Int) := by decide +kernel
theorem big1000 : (2 : Rat) ^ (68 : Int) * 2 ^ (68 : Int) + 2 ^ (68 : Int) * 2 ^ (68 : Int) < 2 ^ (1000 : Int) := by
  have h1 := big68
  have h2 := p2_lt (show (140 : Int) < 1000 by decide)
  grind
theorem pow_ciW {a b : Nat} {x y : Int} (h : CI a b x y) (ox : leW x = true) (oy : leW y = true) : ∃ r, powF a b = some r ∧ NumK .f64 r (((powI x y).natAbs : Rat) * 2 ^ (-298 : Int)) := by
  obtain ⟨r, p, e, n, k⟩ := powF_wide h.num (leW_ab ox) (leW_ab oy) big1000
  have e1 : (x : Rat) * 2 ^ (-149 : Int) * ((x : Rat) * 2 ^ (-149 : Int)) + (y : Rat) * 2 ^ (-149 : Int) * ((y : Rat) * 2 ^ (-149 : Int)) = ((x * x + y * y : Int) : Rat) * 2 ^ (-298 : Int) := by
    rw [← p298, Rat.intCast_add, Rat.intCast_mul, Rat.intCast_mul]; grind
  rw [e1] at k
  have hu := near_unique k (r64_near _)
  have hn : ((powI x y).natAbs : Rat) = ((powI x y : Int) : Rat) := by
    have h0 := powI_nonneg x y
    have e : (((powI x y).natAbs : Int) : Rat) = ((powI x y : Int) : Rat) := by congr 1; omega
    exact e
  have hpe : p = ((powI x y).natAbs : Rat) * 2 ^ (-298 : Int) := by rw [hn]; exact hu
  rw [hpe] at n
  exact ⟨r, e, n⟩
theorem ci_mulW {a b c d : Nat} {x y z t : Int} (h1 : CI a b x y) (h2 : CI c d z t) (ox : leW x = true) (oy : leW y = true) (oz : okI z = true) (ot : okI t = true) :
    ∃ r, mulF a b c d = some r ∧ CI r.1 r.2 (mulI x y z t).1 (mulI x y z t).2 := by
  have hB : (2 : Rat) ^ (68 : Int) * 2 ^ (30 : Int) + 2 ^ (68 : Int) * 2 ^ (30 : Int) ≤ 2 ^ (100 : Int) := by decide +kernel
  obtain ⟨r, m, n, p, q, e, hc, k1, k2, k3, k4⟩ := mulF_two h1.num h2.num (leW_ab ox) (leW_ab oy) (okI_ab oz) (okI_ab ot) hB
  have e1 : (x : Rat) * 2 ^ (-149 : Int) * ((z : Rat) * 2 ^ (-149 : Int)) - (y : Rat) * 2 ^ (-149 : Int) * ((t : Rat) * 2 ^ (-149 : Int)) = ((x * z - y * t : Int) : Rat) * 2 ^ (-298 : Int) := by
    rw [← p298, Rat.intCast_sub, Rat.intCast_mul, Rat.intCast_mul]; grind
  have e2 : (x : Rat) * 2 ^ (-149 : Int) * ((t : Rat) * 2 ^ (-149 : Int)) + (y : Rat) * 2 ^ (-149 : Int) * ((z : Rat) * 2 ^ (-149 : Int)) = ((x * t + y * z : Int) : Rat) * 2 ^ (-298 : Int) := by
    rw [← p298, Rat.intCast_add, Rat.intCast_mul, Rat.intCast_mul]; grind
  rw [e1] at k1
  rw [e2] at k2
  have u1 := near_unique k1 (r64_near _)
  have u2 := near_unique k2 (r64_near _)
  subst u1 u2
  have v1 := near_unique k3 (n32_near _)
  have v2 := near_unique k4 (n32_near _)
  subst v1 v2
  exact ⟨r, e, hc⟩
noncomputable def f32mW (a b : Int) (k : Int → Bool) : Bool := forceI (rnIK 24 149 (Int.mul a b)) fun c => leW c && k c
noncomputable def f32aW (a b : Int) (k : Int → Bool) : Bool := forceI (rnIK 24 0 (Int.add a b)) fun c => leW c && k c
theorem f32mW_ok {a b : Nat} {x y : Int} {k : Int → Bool} (ha : NI a x) (hb : NI b y) (oa : leW x = true) (ob : okI y = true) (hk : f32mW x y k = true) : ∃ r n, fmul .f32 a b = some r ∧ NI r n ∧ leW n = true ∧ k n = true := by
  unfold f32mW at hk
  rw [forceI_eq, rnIK_eq, Bool.and_eq_true] at hk
  have hab := ab_mul (leW_ab oa) (okI_ab ob)
  have hb2 : (2 : Rat) ^ (68 : Int) * 2 ^ (30 : Int) < 2 ^ (126 : Int) := by decide +kernel
  have t := ab_top .f32 hab hb2
  obtain ⟨r, z, e, n, k'⟩ := mul_num ha hb t.1 t.2
  have e1 : (x : Rat) * 2 ^ (-149 : Int) * ((y : Rat) * 2 ^ (-149 : Int)) = ((x * y : Int) : Rat) * 2 ^ (-298 : Int) := by rw [← p298, Rat.intCast_mul]; grind
  rw [e1] at k'
  have := near_unique k' (n32_near _)
  subst this
  exact ⟨r, _, e, n, hk.1, hk.2⟩
theorem f32aW_ok {a b : Nat} {x y : Int} {k : Int → Bool} (ha : NI a x) (hb : NI b y) (oa : leW x = true) (ob : okI y = true) (hk : f32aW x y k = true) : ∃ r n, fadd .f32 a b = some r ∧ NI r n ∧ leW n = true ∧ k n = true := by
  unfold f32aW at hk
  rw [forceI_eq, rnIK_eq, Bool.and_eq_true] at hk
  have hab := ab_add (leW_ab oa) (okI_ab ob)
  have hb2 : (2 : Rat) ^ (68 : Int) + 2 ^ (30 : Int) < 2 ^ (126 : Int) := by decide +kernel
  have t := ab_top .f32 hab hb2
  obtain ⟨r, z, e, n, k'⟩ := add_num ha hb t.1 t.2
  rw [← Rat.add_mul, ← Rat.intCast_add] at k'
  have := near_unique k' (r32_near _)
  subst this
  exact ⟨r, _, e, n, hk.1, hk.2⟩

/-- 2^297 -/
def M297 : Nat := 2 ^ 149 * 2 ^ 148
theorem m297 : (2 : Rat) * 2 ^ (-298 : Int) * (M297 : Rat) = 1 := by
  have e1 : (M297 : Rat) = 2 ^ (149 : Int) * 2 ^ (148 : Int) := by
    have a : (M297 : Rat) = ((2 ^ 149 : Nat) : Rat) * ((2 ^ 148 : Nat) : Rat) := Rat.natCast_mul _ _
    rw [a, lit_p2, lit_p2]; rfl
  have e2 := p298
  have e3 : (2 : Rat) ^ (-149 : Int) * 2 ^ (149 : Int) = 1 := p2_neg_mul 149
  have e4 : (2 : Rat) ^ (149 : Int) = 2 * 2 ^ (148 : Int) := p2_succ 148
  rw [e1, ← e2]
  generalize (2 : Rat) ^ (-149 : Int) = a at *
  generalize (2 : Rat) ^ (149 : Int) = b at *
  generalize (2 : Rat) ^ (148 : Int) = c at *
  subst e4
  grind
/-- twice the whole part of u 2^297 / P, and a last digit for what is left -/
def quoN (u P : Nat) : Nat := 2 * ((M297 * u) / P) + (if (M297 * u) % P = 0 then 0 else 1)

theorem quo_scale {v M K P u T : Rat} (hK : 2 * K * M = 1) (hv : v * P = u) : (2 * T * K * P = T * P * (2 * K)) ∧ u = u * M * (2 * K) := by
  constructor
  · grind
  · have : u = u * (2 * K * M) := by rw [hK, Rat.mul_one]
    grind
theorem quo_lt {v M K P u T : Rat} (hP : 0 < P) (hK : 2 * K * M = 1) (hv : v * P = u) (hKp : 0 < K) (h : T * P < u * M) : 2 * T * K < v := by
  obtain ⟨e1, e2⟩ := quo_scale (T := T) hK hv
  refine Rat.lt_of_mul_lt_mul_right (c := P) ?_ (Rat.le_of_lt hP)
  rw [hv, e1]
  have g := Rat.mul_lt_mul_of_pos_right h (show 0 < 2 * K by grind)
  grind
theorem quo_gt {v M K P u T : Rat} (hP : 0 < P) (hK : 2 * K * M = 1) (hv : v * P = u) (hKp : 0 < K) (h : u * M < T * P) : v < 2 * T * K := by
  obtain ⟨e1, e2⟩ := quo_scale (T := T) hK hv
  refine Rat.lt_of_mul_lt_mul_right (c := P) ?_ (Rat.le_of_lt hP)
  rw [hv, e1]
  have g := Rat.mul_lt_mul_of_pos_right h (show 0 < 2 * K by grind)
  grind
theorem quo_eq {v M K P u T : Rat} (hP : 0 < P) (hK : 2 * K * M = 1) (hv : v * P = u) (h : P * T = u * M) : v = 2 * T * K := by
  obtain ⟨e1, e2⟩ := quo_scale (T := T) hK hv
  refine rat_cancel hP ?_
  rw [hv, e1]
  have : T * P = u * M := by grind
  rw [this]; exact e2

theorem quo_sticky {T : Nat} {v y : Rat} (hT : 2 ^ 54 ≤ T) (h1 : ((2 * T : Nat) : Rat) * 2 ^ (-298 : Int) < v) (h2 : v < ((2 * T + 2 : Nat) : Rat) * 2 ^ (-298 : Int)) (base : Near FloatKind.f64.format (((2 * T + 1 : Nat) : Rat) * 2 ^ (-298 : Int)) y) :
    Near FloatKind.f64.format v y := by
  have hKp := p2_pos (-298)
  have hb : (0 : Rat) < ((2 * T + 1 : Nat) : Rat) * 2 ^ (-298 : Int) := Rat.mul_pos (Rat.natCast_pos.2 (Nat.succ_pos _)) hKp
  have hvp : 0 < v := by
    have : (0 : Rat) ≤ ((2 * T : Nat) : Rat) * 2 ^ (-298 : Int) := Rat.mul_nonneg Rat.natCast_nonneg (Rat.le_of_lt hKp)
    grind
  have e53 : (2 : Nat) ^ (FloatKind.f64.format.fractionBits + 1) ≤ 2 ^ 54 := by decide
  rcases base with ⟨h0, _⟩ | ⟨_, h⟩ | ⟨h0, _⟩
  · grind
  · exact Or.inr (Or.inl ⟨hvp, nearPos_sticky (f := FloatKind.f64.format) (Q := T) (k := -298) (Nat.le_trans e53 hT) h1 h2 h⟩)
  · grind

theorem quoN_near {u P : Nat} (hP : 0 < P) (h : u = 0 ∨ 2 ^ 54 ≤ (M297 * u) / P) : Near FloatKind.f64.format ((u : Rat) / (P : Rat)) ((rn 53 0 (quoN u P) : Rat) * 2 ^ (-298 : Int)) := by
  have base : Near FloatKind.f64.format ((quoN u P : Rat) * 2 ^ (-298 : Int)) ((rn 53 0 (quoN u P) : Rat) * 2 ^ (-298 : Int)) := r64_near (.ofNat (quoN u P))
  generalize (rn 53 0 (quoN u P) : Rat) * 2 ^ (-298 : Int) = y at *
  have hm := Nat.div_add_mod (M297 * u) P
  have hl := Nat.mod_lt (M297 * u) hP
  have hPr : (0 : Rat) < (P : Rat) := Rat.natCast_pos.2 hP
  have hK := m297
  have hKp := p2_pos (-298)
  have hv : (u : Rat) / (P : Rat) * (P : Rat) = (u : Rat) := Rat.div_mul_cancel (by grind)
  generalize (u : Rat) / (P : Rat) = v at *
  have hq : quoN u P = 2 * ((M297 * u) / P) + (if (M297 * u) % P = 0 then 0 else 1) := rfl
  have e2 : ∀ t : Nat, ((2 * t : Nat) : Rat) = 2 * (t : Rat) := fun t => Rat.natCast_mul 2 t
  generalize M297 = M at *
  generalize (M * u) / P = T at *
  by_cases hr : (M * u) % P = 0
  · rw [if_pos hr, Nat.add_zero] at hq
    rw [hq, e2] at base
    rw [hr, Nat.add_zero] at hm
    have hmr : (P : Rat) * (T : Rat) = (u : Rat) * (M : Rat) := by
      rw [← Rat.natCast_mul, ← Rat.natCast_mul, hm, Nat.mul_comm]
    rw [quo_eq hPr hK hv hmr]; exact base
  · rw [if_neg hr] at hq
    rw [hq] at base
    have hu0 : u ≠ 0 := by
      intro h0; subst h0; simp at hr
    have hT : 2 ^ 54 ≤ T := by rcases h with h | h; exact absurd h hu0; exact h
    have hc : P * T = T * P := Nat.mul_comm _ _
    have hc2 : M * u = u * M := Nat.mul_comm _ _
    have l1 : T * P < u * M := by omega
    have l2 : u * M < (T + 1) * P := by rw [Nat.add_mul, Nat.one_mul]; omega
    have l1r := Rat.natCast_lt_natCast.2 l1
    have l2r := Rat.natCast_lt_natCast.2 l2
    rw [Rat.natCast_mul, Rat.natCast_mul] at l1r l2r
    have h1 := quo_lt hPr hK hv hKp l1r
    have h2 := quo_gt hPr hK hv hKp l2r
    rw [← e2] at h1 h2
    exact quo_sticky hT h1 h2 base

/-- the quotient U / P as a 64-bit float, in units of 2^-298 -/
def q64 (U : Int) (P : Nat) : Int := match U with
  | .ofNat u => .ofNat (rn 53 0 (quoN u P))
  | .negSucc u => -(.ofNat (rn 53 0 (quoN (u + 1) P)))

theorem q64_near {U : Int} {P : Nat} (hP : 0 < P) (h : U.natAbs = 0 ∨ 2 ^ 54 ≤ (M297 * U.natAbs) / P) : Near FloatKind.f64.format ((U : Rat) / (P : Rat)) ((q64 U P : Rat) * 2 ^ (-298 : Int)) := by
  cases U with
  | ofNat u => exact quoN_near hP h
  | negSucc u =>
    have h1 := near_neg (quoN_near (u := u + 1) hP h)
    have e1 : ((Int.negSucc u : Int) : Rat) = -((u + 1 : Nat) : Rat) := by
      have : (Int.negSucc u : Int) = -((u + 1 : Nat) : Int) := rfl
      rw [this, Rat.intCast_neg]; rfl
    have e2 : ((q64 (Int.negSucc u) P : Int) : Rat) = -((rn 53 0 (quoN (u + 1) P) : Nat) : Rat) := by
      show ((-(Int.ofNat (rn 53 0 (quoN (u + 1) P))) : Int) : Rat) = _
      rw [Rat.intCast_neg]; rfl
    rw [e1, e2, Rat.neg_mul]
    have e3 : -((u + 1 : Nat) : Rat) / (P : Rat) = -(((u + 1 : Nat) : Rat) / (P : Rat)) := by rw [Rat.div_def, Rat.div_def, Rat.neg_mul]
    rw [e3]
    exact h1

noncomputable def quoNK (u P : Nat) (k : Nat → Bool) : Bool :=
  forceN (Nat.shiftLeft (Nat.shiftLeft u 149) 148) fun t => forceN (Nat.div t P) fun T => (Nat.beq u 0 || Nat.ble (Nat.pow 2 54) T) &&
    forceN (cond (Nat.beq (Nat.mod t P) 0) (Nat.mul 2 T) (Nat.succ (Nat.mul 2 T))) k
theorem quoNK_ok {u P : Nat} {k : Nat → Bool} (h : quoNK u P k = true) : (u = 0 ∨ 2 ^ 54 ≤ (M297 * u) / P) ∧ k (quoN u P) = true := by
  unfold quoNK at h
  simp only [forceN_eq, Bool.and_eq_true, Bool.or_eq_true] at h
  obtain ⟨h1, h2⟩ := h
  have es : Nat.shiftLeft (Nat.shiftLeft u 149) 148 = M297 * u := by
    have a : Nat.shiftLeft (Nat.shiftLeft u 149) 148 = Nat.shiftLeft u 149 * 2 ^ 148 := Nat.shiftLeft_eq _ 148
    have b : Nat.shiftLeft u 149 = u * 2 ^ 149 := Nat.shiftLeft_eq u 149
    rw [a, b, Nat.mul_assoc, Nat.mul_comm]; rfl
  rw [es] at h1 h2
  refine ⟨?_, ?_⟩
  · rcases h1 with h1 | h1
    · exact Or.inl (Nat.eq_of_beq_eq_true h1)
    · exact Or.inr (Nat.le_of_ble_eq_true h1)
  · have e : (bif Nat.beq (Nat.mod (M297 * u) P) 0 then Nat.mul 2 (Nat.div (M297 * u) P) else Nat.succ (Nat.mul 2 (Nat.div (M297 * u) P))) = quoN u P := by
      unfold quoN
      cases hb : Nat.beq (Nat.mod (M297 * u) P) 0
      · have : ¬ (M297 * u) % P = 0 := fun h0 => by
          have h0' : Nat.mod (M297 * u) P = 0 := h0
          rw [h0'] at hb; cases hb
        rw [if_neg this]; rfl
      · have : (M297 * u) % P = 0 := Nat.eq_of_beq_eq_true hb
        rw [if_pos this]; rfl
    rw [e] at h2
    exact h2
noncomputable def q64K (U : Int) (P : Nat) (k : Int → Bool) : Bool :=
  Int.rec (fun u => quoNK u P fun q => forceI (.ofNat (rnK 53 0 q)) k) (fun u => quoNK (Nat.succ u) P fun q => forceI (Int.neg (.ofNat (rnK 53 0 q))) k) U
theorem q64K_ok {U : Int} {P : Nat} {k : Int → Bool} (h : q64K U P k = true) : (U.natAbs = 0 ∨ 2 ^ 54 ≤ (M297 * U.natAbs) / P) ∧ k (q64 U P) = true := by
  cases U with
  | ofNat u =>
    have h : quoNK u P (fun q => forceI (.ofNat (rnK 53 0 q)) k) = true := h
    obtain ⟨h1, h2⟩ := quoNK_ok h
    rw [forceI_eq, rnK_eq] at h2
    exact ⟨h1, h2⟩
  | negSucc u =>
    have h : quoNK (Nat.succ u) P (fun q => forceI (Int.neg (.ofNat (rnK 53 0 q))) k) = true := h
    obtain ⟨h1, h2⟩ := quoNK_ok h
    rw [forceI_eq, rnK_eq] at h2
    exact ⟨h1, h2⟩

def p423 : Nat := 298 + 125
theorem p423_eq : p423 = 298 + 125 := rfl
noncomputable def le423 (n : Int) : Bool := leN p423 n
theorem okN298 {K k : Nat} {n : Int} (hK : K = 298 + k) (h : n.natAbs ≤ 2 ^ K) : Ab ((n : Rat) * 2 ^ (-298 : Int)) (2 ^ (k : Int)) := by
  have h2 : n ≤ ((2 ^ K : Nat) : Int) := by omega
  have h3 : -((2 ^ K : Nat) : Int) ≤ n := by omega
  have hp := p2_pos (-298)
  have e : ((2 ^ K : Nat) : Rat) * 2 ^ (-298 : Int) = 2 ^ (k : Int) := by rw [lit_p2, ← p2_add]; congr 1; omega
  have g2 := Rat.mul_le_mul_of_nonneg_right (Rat.intCast_le_intCast.2 h2) (Rat.le_of_lt hp)
  have g3 := Rat.mul_le_mul_of_nonneg_right (Rat.intCast_le_intCast.2 h3) (Rat.le_of_lt hp)
  rw [Rat.intCast_neg] at g3
  have e' : (((2 ^ K : Nat) : Int) : Rat) * 2 ^ (-298 : Int) = 2 ^ (k : Int) := e
  clear h h2 h3 hK e
  generalize (((2 ^ K : Nat) : Int) : Rat) = a at *
  constructor <;> grind
theorem leN_ab298 {n : Int} (h : le423 n = true) : Ab ((n : Rat) * 2 ^ (-298 : Int)) (2 ^ (125 : Int)) := okN298 (K := p423) (k := 125) p423_eq (leN_ok h)

noncomputable def quotK (a b c d : Int) (k : Int → Int → Bool) : Bool :=
  forceN (Int.natAbs (rnIK 53 0 (Int.add (Int.mul c c) (Int.mul d d)))) fun P => Nat.ble 1 P &&
  forceI (rnIK 53 0 (Int.add (Int.mul a c) (Int.mul b d))) fun U => q64K U P fun X =>
  forceI (rnIK 53 0 (Int.sub (Int.mul b c) (Int.mul a d))) fun V => q64K V P fun Y =>
  le423 X && le423 Y && forceI (rnIK 24 149 X) fun r => forceI (rnIK 24 149 Y) fun i => k r i

theorem div_scale (U : Int) {P : Nat} (hP : 0 < P) : (U : Rat) * 2 ^ (-298 : Int) / ((P : Rat) * 2 ^ (-298 : Int)) = (U : Rat) / (P : Rat) := by
  have hPr : (0 : Rat) < (P : Rat) := Rat.natCast_pos.2 hP
  have hp := p2_pos (-298)
  have hPK := Rat.mul_pos hPr hp
  refine rat_cancel hPK ?_
  rw [Rat.div_mul_cancel (by grind)]
  have e : (U : Rat) / (P : Rat) * (P : Rat) = (U : Rat) := Rat.div_mul_cancel (by grind)
  generalize (U : Rat) / (P : Rat) = v at *
  rw [← e]; grind

/-- a quotient of two 64-bit floats, narrowed -/
theorem div_ci {u p : Nat} {U : Int} {P : Nat} (hu : NumK .f64 u ((U : Rat) * 2 ^ (-298 : Int))) (hp : NumK .f64 p ((P : Rat) * 2 ^ (-298 : Int))) (hP : 0 < P)
    (hU : Ab ((U : Rat) * 2 ^ (-298 : Int)) (2 ^ (140 : Int))) (h : U.natAbs = 0 ∨ 2 ^ 54 ≤ (M297 * U.natAbs) / P) (hX : le423 (q64 U P) = true) :
    ∃ q r, fdiv .f64 u p = some q ∧ narrow q = some r ∧ NI r (n32 (q64 U P)) := by
  have hpp := p2_pos (-298)
  have hPr : (1 : Rat) ≤ (P : Rat) := Rat.natCast_le_natCast.2 hP
  have hpos : (0 : Rat) < (P : Rat) * 2 ^ (-298 : Int) := Rat.mul_pos (by grind) hpp
  have hge : (2 : Rat) ^ (-298 : Int) ≤ (P : Rat) * 2 ^ (-298 : Int) := by
    have := Rat.mul_le_mul_of_nonneg_right hPr (Rat.le_of_lt hpp)
    rw [Rat.one_mul] at this; exact this
  have e61 : (2 : Rat) ^ (140 : Int) = 2 ^ (438 : Int) * 2 ^ (-298 : Int) := by rw [← p2_add]; rfl
  have big : (2 : Rat) ^ (140 : Int) ≤ 2 ^ (438 : Int) * ((P : Rat) * 2 ^ (-298 : Int)) := by
    rw [e61]; exact Rat.mul_le_mul_of_nonneg_left hge (Rat.le_of_lt (p2_pos 438))
  have d1 : (U : Rat) * 2 ^ (-298 : Int) / ((P : Rat) * 2 ^ (-298 : Int)) ≤ 2 ^ (438 : Int) := div_le hpos (by have := hU.2; grind)
  have d2 : -2 ^ (438 : Int) ≤ (U : Rat) * 2 ^ (-298 : Int) / ((P : Rat) * 2 ^ (-298 : Int)) := le_div hpos (by have := hU.1; grind)
  have lt := p2_lt (show (438 : Int) < top FloatKind.f64.format - 1 by decide)
  obtain ⟨q, z, e1, n1, k1⟩ := div_num hu hp (by grind) (by grind) (by grind)
  rw [div_scale U hP] at k1
  have hz := near_unique k1 (q64_near hP h)
  subst hz
  obtain ⟨r, y, e2, n2, k2⟩ := narrow_ab n1 (leN_ab298 hX) (p2_lt (by decide))
  have hy := near_unique k2 (n32_near _)
  subst hy
  exact ⟨q, r, e1, e2, n2⟩

theorem quot_ci {a b c d : Nat} {x y z t : Int} {k : Int → Int → Bool} (h1 : CI a b x y) (h2 : CI c d z t) (ox : leW x = true) (oy : leW y = true) (oz : leW z = true) (ot : leW t = true) (hk : quotK x y z t k = true) :
    ∃ r n m, quotF a b c d = some r ∧ CI r.1 r.2 n m ∧ k n m = true := by
  obtain ⟨p, ep, np⟩ := pow_ciW h2 oz ot
  obtain ⟨wa, ea, na, _⟩ := widen_num h1.1
  obtain ⟨wb, eb, nb, _⟩ := widen_num h1.2
  obtain ⟨wc, ec, nc, _⟩ := widen_num h2.1
  obtain ⟨wd, ed, nd, _⟩ := widen_num h2.2
  have nd' := neg_num nd
  obtain ⟨r, m, n, e, n1, n2, k1, k2⟩ := timesF_wide na nb nc nd' (num_rep h1.1) (num_rep h1.2) (num_rep h2.1) (rep_neg (num_rep h2.2)) (leW_ab ox) (leW_ab oy) (leW_ab oz) (ab_neg (leW_ab ot)) big1000
  have e1 : (x : Rat) * 2 ^ (-149 : Int) * ((z : Rat) * 2 ^ (-149 : Int)) - (y : Rat) * 2 ^ (-149 : Int) * -((t : Rat) * 2 ^ (-149 : Int)) = ((x * z + y * t : Int) : Rat) * 2 ^ (-298 : Int) := by
    rw [← p298, Rat.intCast_add, Rat.intCast_mul, Rat.intCast_mul]; grind
  have e2 : (x : Rat) * 2 ^ (-149 : Int) * -((t : Rat) * 2 ^ (-149 : Int)) + (y : Rat) * 2 ^ (-149 : Int) * ((z : Rat) * 2 ^ (-149 : Int)) = ((y * z - x * t : Int) : Rat) * 2 ^ (-298 : Int) := by
    rw [← p298, Rat.intCast_sub, Rat.intCast_mul, Rat.intCast_mul]; grind
  have e61 := big68
  have b1 := near_ab k1 (rep_p2 .f64 (e := 140) (by decide)) (ab_mono (ab_sub (ab_mul (leW_ab ox) (leW_ab oz)) (ab_mul (leW_ab oy) (ab_neg (leW_ab ot)))) e61)
  have b2 := near_ab k2 (rep_p2 .f64 (e := 140) (by decide)) (ab_mono (ab_add (ab_mul (leW_ab ox) (ab_neg (leW_ab ot))) (ab_mul (leW_ab oy) (leW_ab oz))) e61)
  rw [e1] at k1
  rw [e2] at k2
  have u1 := near_unique k1 (r64_near _)
  have u2 := near_unique k2 (r64_near _)
  subst u1 u2
  unfold quotK at hk
  simp only [forceN_eq, forceI_eq, rnIK_eq, Bool.and_eq_true] at hk
  obtain ⟨hP, hk⟩ := hk
  have hP : 0 < (powI z t).natAbs := Nat.le_of_ble_eq_true hP
  have hk : q64K (r64 (x * z + y * t)) (powI z t).natAbs (fun X => q64K (r64 (y * z - x * t)) (powI z t).natAbs (fun Y => le423 X && le423 Y && k (rnI 24 149 X) (rnI 24 149 Y))) = true := hk
  obtain ⟨c1, hk⟩ := q64K_ok hk
  obtain ⟨c2, hk⟩ := q64K_ok hk
  rw [Bool.and_eq_true, Bool.and_eq_true] at hk
  obtain ⟨⟨l1, l2⟩, hk⟩ := hk
  obtain ⟨q1, r1, f1, g1, m1⟩ := div_ci n1 np hP b1 c1 l1
  obtain ⟨q2, r2, f2, g2, m2⟩ := div_ci n2 np hP b2 c2 l2
  exact ⟨(r1, r2), _, _, by simp [quotF, ea, eb, ec, ed, e, ep, f1, g1, f2, g2], ⟨m1, m2⟩, hk⟩
end Go.Proofs.Ytjhicedblobjfaa

namespace Go.Proofs.Ytjhicedblobjfaa
open Ieee

/-- the roots of one as the program has them -/
def phN (n k : Nat) : Nat × Nat := match n, k with
  | 2, 0 => (1065353216, 0)
  | 2, 1 => (3212836864, 0)
  | 3, 0 => (1065353216, 0)
  | 3, 1 => (3204448256, 1063105495)
  | 3, 2 => (3204448256, 3210589143)
  | 4, 0 => (1065353216, 0)
  | 4, 1 => (0, 1065353216)
  | 4, 2 => (3212836864, 0)
  | 4, 3 => (0, 3212836864)
  | 5, 0 => (1065353216, 0)
  | 5, 1 => (1050556282, 1064532081)
  | 5, 2 => (3209632701, 1058437400)
  | 5, 3 => (3209632701, 3205921048)
  | 5, 4 => (1050556282, 3212015729)
  | 6, 0 => (1065353216, 0)
  | 6, 1 => (1056964608, 1063105495)
  | 6, 2 => (3204448256, 1063105495)
  | 6, 3 => (3212836864, 0)
  | 6, 4 => (3204448256, 3210589143)
  | 6, 5 => (1056964608, 3210589143)
  | _, _ => (0, 0)

theorem ni_0 : NI 0 (Int.ofNat 0) := num_lit .f32 0 false 0 (-149) _ (by kernel_rfl) (by kernel_rfl)
theorem ok_0 : okI (Int.ofNat 0) = true := by rw [← okK_eq]; kernel_rfl
theorem ni_1050556282 : NI 1050556282 (Int.ofNat 220521901971428101526296895828324193130250240) := num_lit .f32 1050556282 false 10368890 (-25) _ (by kernel_rfl) (by kernel_rfl)
theorem ok_1050556282 : okI (Int.ofNat 220521901971428101526296895828324193130250240) = true := by rw [← okK_eq]; kernel_rfl
theorem ni_1056964608 : NI 1056964608 (Int.ofNat 356811923176489970264571492362373784095686656) := num_lit .f32 1056964608 false 8388608 (-24) _ (by kernel_rfl) (by kernel_rfl)
theorem ok_1056964608 : okI (Int.ofNat 356811923176489970264571492362373784095686656) = true := by rw [← okK_eq]; kernel_rfl
theorem ni_1058437400 : NI 1058437400 (Int.ofNat 419457566644267820449715294215954880056524800) := num_lit .f32 1058437400 false 9861400 (-24) _ (by kernel_rfl) (by kernel_rfl)
theorem ok_1058437400 : okI (Int.ofNat 419457566644267820449715294215954880056524800) = true := by rw [← okK_eq]; kernel_rfl
theorem ni_1063105495 : NI 1063105495 (Int.ofNat 618016368595742600024848005225854883688611840) := num_lit .f32 1063105495 false 14529495 (-24) _ (by kernel_rfl) (by kernel_rfl)
theorem ok_1063105495 : okI (Int.ofNat 618016368595742600024848005225854883688611840) = true := by rw [← okK_eq]; kernel_rfl
theorem ni_1064532081 : NI 1064532081 (Int.ofNat 678696626182776839879643221190561944402132992) := num_lit .f32 1064532081 false 15956081 (-24) _ (by kernel_rfl) (by kernel_rfl)
theorem ok_1064532081 : okI (Int.ofNat 678696626182776839879643221190561944402132992) = true := by rw [← okK_eq]; kernel_rfl
theorem ni_1065353216 : NI 1065353216 (Int.ofNat 713623846352979940529142984724747568191373312) := num_lit .f32 1065353216 false 8388608 (-23) _ (by kernel_rfl) (by kernel_rfl)
theorem ok_1065353216 : okI (Int.ofNat 713623846352979940529142984724747568191373312) = true := by rw [← okK_eq]; kernel_rfl
theorem ni_3204448256 : NI 3204448256 (Int.negSucc 356811923176489970264571492362373784095686655) := num_lit .f32 3204448256 true 8388608 (-24) _ (by kernel_rfl) (by kernel_rfl)
theorem ok_3204448256 : okI (Int.negSucc 356811923176489970264571492362373784095686655) = true := by rw [← okK_eq]; kernel_rfl
theorem ni_3205921048 : NI 3205921048 (Int.negSucc 419457566644267820449715294215954880056524799) := num_lit .f32 3205921048 true 9861400 (-24) _ (by kernel_rfl) (by kernel_rfl)
theorem ok_3205921048 : okI (Int.negSucc 419457566644267820449715294215954880056524799) = true := by rw [← okK_eq]; kernel_rfl
theorem ni_3209632701 : NI 3209632701 (Int.negSucc 577333825147918071790868388190697977225936895) := num_lit .f32 3209632701 true 13573053 (-24) _ (by kernel_rfl) (by kernel_rfl)
theorem ok_3209632701 : okI (Int.negSucc 577333825147918071790868388190697977225936895) = true := by rw [← okK_eq]; kernel_rfl
theorem ni_3210589143 : NI 3210589143 (Int.negSucc 618016368595742600024848005225854883688611839) := num_lit .f32 3210589143 true 14529495 (-24) _ (by kernel_rfl) (by kernel_rfl)
theorem ok_3210589143 : okI (Int.negSucc 618016368595742600024848005225854883688611839) = true := by rw [← okK_eq]; kernel_rfl
theorem ni_3212015729 : NI 3212015729 (Int.negSucc 678696626182776839879643221190561944402132991) := num_lit .f32 3212015729 true 15956081 (-24) _ (by kernel_rfl) (by kernel_rfl)
theorem ok_3212015729 : okI (Int.negSucc 678696626182776839879643221190561944402132991) = true := by rw [← okK_eq]; kernel_rfl
theorem ni_3212836864 : NI 3212836864 (Int.negSucc 713623846352979940529142984724747568191373311) := num_lit .f32 3212836864 true 8388608 (-23) _ (by kernel_rfl) (by kernel_rfl)
theorem ok_3212836864 : okI (Int.negSucc 713623846352979940529142984724747568191373311) = true := by rw [← okK_eq]; kernel_rfl

/-- near to one of the roots -/
def FoundR (n : Nat) (z : Nat × Nat) : Prop := ∃ k, k < n ∧ NearBy (1 / 1000) z (phN n k)
noncomputable def nearAt (px py a b : Int) : Bool := cond (leN 141 (Int.sub a px)) (cond (leN 141 (Int.sub b py)) (nearK a b px py) false) false
theorem nearAt_ci {n k : Nat} {z : Nat × Nat} {px py a b : Int} (hk : k < n) (hp : CI (phN n k).1 (phN n k).2 px py) (ox : okI px = true) (oy : okI py = true) (hz : CI z.1 z.2 a b) (oa : okI a = true) (ob : okI b = true)
    (h : nearAt px py a b = true) : FoundR n z := by
  unfold nearAt at h
  cases h1 : leN 141 (Int.sub a px) <;> rw [h1] at h
  · cases h
  · cases h2 : leN 141 (Int.sub b py) <;> rw [h2] at h
    · cases h
    · exact ⟨k, hk, near_ci hz hp oa ob ox oy h⟩

noncomputable def nearR2 (a b : Int) : Bool := nearAt (Int.ofNat 713623846352979940529142984724747568191373312) (Int.ofNat 0) a b || nearAt (Int.negSucc 713623846352979940529142984724747568191373311) (Int.ofNat 0) a b
theorem nearR2_ci {z : Nat × Nat} {a b : Int} (hz : CI z.1 z.2 a b) (oa : okI a = true) (ob : okI b = true) (h : nearR2 a b = true) : FoundR 2 z := by
  unfold nearR2 at h
  simp only [Bool.or_eq_true] at h
  rcases h with h | h
  · exact nearAt_ci (n := 2) (k := 0) (by decide) ⟨ni_1065353216, ni_0⟩ ok_1065353216 ok_0 hz oa ob h
  · exact nearAt_ci (n := 2) (k := 1) (by decide) ⟨ni_3212836864, ni_0⟩ ok_3212836864 ok_0 hz oa ob h
noncomputable def nearR3 (a b : Int) : Bool := nearAt (Int.ofNat 713623846352979940529142984724747568191373312) (Int.ofNat 0) a b || nearAt (Int.negSucc 356811923176489970264571492362373784095686655) (Int.ofNat 618016368595742600024848005225854883688611840) a b || nearAt (Int.negSucc 356811923176489970264571492362373784095686655) (Int.negSucc 618016368595742600024848005225854883688611839) a b
theorem nearR3_ci {z : Nat × Nat} {a b : Int} (hz : CI z.1 z.2 a b) (oa : okI a = true) (ob : okI b = true) (h : nearR3 a b = true) : FoundR 3 z := by
  unfold nearR3 at h
  simp only [Bool.or_eq_true] at h
  rcases h with (h | h) | h
  · exact nearAt_ci (n := 3) (k := 0) (by decide) ⟨ni_1065353216, ni_0⟩ ok_1065353216 ok_0 hz oa ob h
  · exact nearAt_ci (n := 3) (k := 1) (by decide) ⟨ni_3204448256, ni_1063105495⟩ ok_3204448256 ok_1063105495 hz oa ob h
  · exact nearAt_ci (n := 3) (k := 2) (by decide) ⟨ni_3204448256, ni_3210589143⟩ ok_3204448256 ok_3210589143 hz oa ob h
noncomputable def nearR4 (a b : Int) : Bool := nearAt (Int.ofNat 713623846352979940529142984724747568191373312) (Int.ofNat 0) a b || nearAt (Int.ofNat 0) (Int.ofNat 713623846352979940529142984724747568191373312) a b || nearAt (Int.negSucc 713623846352979940529142984724747568191373311) (Int.ofNat 0) a b || nearAt (Int.ofNat 0) (Int.negSucc 713623846352979940529142984724747568191373311) a b
theorem nearR4_ci {z : Nat × Nat} {a b : Int} (hz : CI z.1 z.2 a b) (oa : okI a = true) (ob : okI b = true) (h : nearR4 a b = true) : FoundR 4 z := by
  unfold nearR4 at h
  simp only [Bool.or_eq_true] at h
  rcases h with ((h | h) | h) | h
  · exact nearAt_ci (n := 4) (k := 0) (by decide) ⟨ni_1065353216, ni_0⟩ ok_1065353216 ok_0 hz oa ob h
  · exact nearAt_ci (n := 4) (k := 1) (by decide) ⟨ni_0, ni_1065353216⟩ ok_0 ok_1065353216 hz oa ob h
  · exact nearAt_ci (n := 4) (k := 2) (by decide) ⟨ni_3212836864, ni_0⟩ ok_3212836864 ok_0 hz oa ob h
  · exact nearAt_ci (n := 4) (k := 3) (by decide) ⟨ni_0, ni_3212836864⟩ ok_0 ok_3212836864 hz oa ob h
noncomputable def nearR5 (a b : Int) : Bool := nearAt (Int.ofNat 713623846352979940529142984724747568191373312) (Int.ofNat 0) a b || nearAt (Int.ofNat 220521901971428101526296895828324193130250240) (Int.ofNat 678696626182776839879643221190561944402132992) a b || nearAt (Int.negSucc 577333825147918071790868388190697977225936895) (Int.ofNat 419457566644267820449715294215954880056524800) a b || nearAt (Int.negSucc 577333825147918071790868388190697977225936895) (Int.negSucc 419457566644267820449715294215954880056524799) a b || nearAt (Int.ofNat 220521901971428101526296895828324193130250240) (Int.negSucc 678696626182776839879643221190561944402132991) a b
theorem nearR5_ci {z : Nat × Nat} {a b : Int} (hz : CI z.1 z.2 a b) (oa : okI a = true) (ob : okI b = true) (h : nearR5 a b = true) : FoundR 5 z := by
  unfold nearR5 at h
  simp only [Bool.or_eq_true] at h
  rcases h with (((h | h) | h) | h) | h
  · exact nearAt_ci (n := 5) (k := 0) (by decide) ⟨ni_1065353216, ni_0⟩ ok_1065353216 ok_0 hz oa ob h
  · exact nearAt_ci (n := 5) (k := 1) (by decide) ⟨ni_1050556282, ni_1064532081⟩ ok_1050556282 ok_1064532081 hz oa ob h
  · exact nearAt_ci (n := 5) (k := 2) (by decide) ⟨ni_3209632701, ni_1058437400⟩ ok_3209632701 ok_1058437400 hz oa ob h
  · exact nearAt_ci (n := 5) (k := 3) (by decide) ⟨ni_3209632701, ni_3205921048⟩ ok_3209632701 ok_3205921048 hz oa ob h
  · exact nearAt_ci (n := 5) (k := 4) (by decide) ⟨ni_1050556282, ni_3212015729⟩ ok_1050556282 ok_3212015729 hz oa ob h
noncomputable def nearR6 (a b : Int) : Bool := nearAt (Int.ofNat 713623846352979940529142984724747568191373312) (Int.ofNat 0) a b || nearAt (Int.ofNat 356811923176489970264571492362373784095686656) (Int.ofNat 618016368595742600024848005225854883688611840) a b || nearAt (Int.negSucc 356811923176489970264571492362373784095686655) (Int.ofNat 618016368595742600024848005225854883688611840) a b || nearAt (Int.negSucc 713623846352979940529142984724747568191373311) (Int.ofNat 0) a b || nearAt (Int.negSucc 356811923176489970264571492362373784095686655) (Int.negSucc 618016368595742600024848005225854883688611839) a b || nearAt (Int.ofNat 356811923176489970264571492362373784095686656) (Int.negSucc 618016368595742600024848005225854883688611839) a b
theorem nearR6_ci {z : Nat × Nat} {a b : Int} (hz : CI z.1 z.2 a b) (oa : okI a = true) (ob : okI b = true) (h : nearR6 a b = true) : FoundR 6 z := by
  unfold nearR6 at h
  simp only [Bool.or_eq_true] at h
  rcases h with ((((h | h) | h) | h) | h) | h
  · exact nearAt_ci (n := 6) (k := 0) (by decide) ⟨ni_1065353216, ni_0⟩ ok_1065353216 ok_0 hz oa ob h
  · exact nearAt_ci (n := 6) (k := 1) (by decide) ⟨ni_1056964608, ni_1063105495⟩ ok_1056964608 ok_1063105495 hz oa ob h
  · exact nearAt_ci (n := 6) (k := 2) (by decide) ⟨ni_3204448256, ni_1063105495⟩ ok_3204448256 ok_1063105495 hz oa ob h
  · exact nearAt_ci (n := 6) (k := 3) (by decide) ⟨ni_3212836864, ni_0⟩ ok_3212836864 ok_0 hz oa ob h
  · exact nearAt_ci (n := 6) (k := 4) (by decide) ⟨ni_3204448256, ni_3210589143⟩ ok_3204448256 ok_3210589143 hz oa ob h
  · exact nearAt_ci (n := 6) (k := 5) (by decide) ⟨ni_1056964608, ni_3210589143⟩ ok_1056964608 ok_3210589143 hz oa ob h

/-! ### steps -/
def itF : Nat → (Nat × Nat) → Nat → Nat → Option (Nat × Nat)
  | 0, p, _, _ => some p
  | m + 1, p, a, b => do let q ← mulF p.1 p.2 a b; itF m q a b
/-- a step to a root -/
def stepF (n a b : Nat) : Option (Nat × Nat) := do
  let p ← itF (n - 2) (a, b) a b
  let m ← mulF p.1 p.2 a b
  let s ← scaleF m.1 m.2 (floatOfInt .f32 ((n : Int) - 1))
  let t ← addF s.1 s.2 1065353216 0
  let q ← scaleF p.1 p.2 (floatOfInt .f32 (n : Int))
  quotF t.1 t.2 q.1 q.2

noncomputable def itK (m : Nat) (a b : Int) (k : Int → Int → Bool) : Int → Int → Bool :=
  Nat.rec k (fun _ f x y => mulK x y a b fun u v => leW u && leW v && f u v) m
theorem it_ci {za zb : Nat} {a b : Int} (hz : CI za zb a b) (oa : okI a = true) (ob : okI b = true) {k : Int → Int → Bool} : ∀ (m : Nat) {p : Nat × Nat} {x y : Int}, CI p.1 p.2 x y → leW x = true → leW y = true → itK m a b k x y = true →
    ∃ q u v, itF m p za zb = some q ∧ CI q.1 q.2 u v ∧ leW u = true ∧ leW v = true ∧ k u v = true
  | 0, p, x, y, h, ox, oy, hk => ⟨p, x, y, rfl, h, ox, oy, hk⟩
  | m + 1, p, x, y, h, ox, oy, hk => by
    have hk : (mulK x y a b fun u v => leW u && leW v && itK m a b k u v) = true := hk
    rw [mulK_eq, Bool.and_eq_true, Bool.and_eq_true] at hk
    obtain ⟨⟨h1, h2⟩, hk⟩ := hk
    obtain ⟨r, e, n⟩ := ci_mulW h hz ox oy oa ob
    obtain ⟨q, u, v, e2, g⟩ := it_ci hz oa ob m n h1 h2 hk
    exact ⟨q, u, v, by simp [itF, e, e2], g⟩

noncomputable def stepK (m : Nat) (n1 n0 : Int) (a b : Int) (k : Int → Int → Bool) : Bool :=
  leW a && leW b && itK m a b (fun x y => mulK x y a b fun u v => leW u && leW v && f32mW u n1 fun s => f32mW v n1 fun t => f32aW s oneK fun s' => f32aW t (.ofNat 0) fun t' => f32mW x n0 fun p => f32mW y n0 fun q => quotK s' t' p q k) a b

theorem step_ci {n : Nat} {z : Nat × Nat} {a b n1 n0 : Int} (h1 : NI (floatOfInt .f32 ((n : Int) - 1)) n1) (h0 : NI (floatOfInt .f32 (n : Int)) n0) (o1 : okI n1 = true) (o0 : okI n0 = true) (hz : CI z.1 z.2 a b) (oa : okI a = true) (ob : okI b = true)
    {k : Int → Int → Bool} (hk : stepK (n - 2) n1 n0 a b k = true) : ∃ z' u v, stepF n z.1 z.2 = some z' ∧ CI z'.1 z'.2 u v ∧ k u v = true := by
  unfold stepK at hk
  rw [Bool.and_eq_true, Bool.and_eq_true] at hk
  obtain ⟨⟨wa, wb⟩, hk⟩ := hk
  obtain ⟨p, x, y, e1, c1, ox, oy, hk⟩ := it_ci hz oa ob (n - 2) (p := (z.1, z.2)) hz wa wb hk
  simp only [mulK_eq, Bool.and_eq_true] at hk
  obtain ⟨⟨om, om'⟩, hk⟩ := hk
  obtain ⟨m, e2, c2⟩ := ci_mulW c1 hz ox oy oa ob
  obtain ⟨s, s', e3, c3, o3, hk⟩ := f32mW_ok c2.1 h1 om o1 hk
  obtain ⟨t, t', e4, c4, o4, hk⟩ := f32mW_ok c2.2 h1 om' o1 hk
  obtain ⟨u, u', e5, c5, o5, hk⟩ := f32aW_ok c3 ni_one o3 ok_one hk
  obtain ⟨v, v', e6, c6, o6, hk⟩ := f32aW_ok c4 ni_zero o4 ok_zero hk
  obtain ⟨q, q', e7, c7, o7, hk⟩ := f32mW_ok c1.1 h0 ox o0 hk
  obtain ⟨r, r', e8, c8, o8, hk⟩ := f32mW_ok c1.2 h0 oy o0 hk
  obtain ⟨z', x', y', e9, c9, hk⟩ := quot_ci (a := u) (b := v) (c := q) (d := r) ⟨c5, c6⟩ ⟨c7, c8⟩ o5 o6 o7 o8 hk
  exact ⟨z', x', y', by simp [stepF, e1, e2, scaleF, addF, e3, e4, e5, e6, e7, e8, e9], c9, hk⟩

/-- from here steps lead to a root, out of the small numbers, or to nothing; or they are numbers as long as is asked -/
def RootGood (n : Nat) : Nat → (Nat × Nat) → Prop
  | 0, z => Fair z
  | f + 1, z => Fair z ∧ (FoundR n z ∨ ¬ SmallC z.1 z.2 ∨ ZeroC z ∨ ∃ z', stepF n z.1 z.2 = some z' ∧ RootGood n f z')
noncomputable def zeroK (a : Int) : Bool := Nat.beq (Int.natAbs a) 0
noncomputable def rootsK (nr : Int → Int → Bool) (m : Nat) (n1 n0 : Int) (f : Nat) : Int → Int → Bool :=
  Nat.rec ok2 (fun _ g a b => ok2 a b && (nr a b || !(smallK a && smallK b) || (zeroK a && zeroK b) || stepK m n1 n0 a b g)) f

theorem ci_fair {z : Nat × Nat} {a b : Int} (hz : CI z.1 z.2 a b) (oa : okI a = true) (ob : okI b = true) : Fair z := by
  have e : (2 : Rat) ^ (30 : Int) ≤ 2 ^ (44 : Int) := p2_mono (by decide)
  exact ⟨_, _, hz.num, ab_mono (okI_ab oa) e, ab_mono (okI_ab ob) e⟩
theorem small_not {b : Nat} {n : Int} {x : Rat} (h : NI b n) (hx : NumK .f32 b x) (bx : Ab x 1000) : smallK n = true := by
  have e := num_unique h hx
  subst e
  have hp := p2_pos (-149)
  have e1000 : (1000 : Rat) = ((1000 * 2 ^ 149 : Nat) : Int) * 2 ^ (-149 : Int) := by decide +kernel
  have h1 := bx.1
  have h2 := bx.2
  rw [e1000] at h1 h2
  rw [← Rat.neg_mul, ← Rat.intCast_neg] at h1
  have g1 := Rat.intCast_le_intCast.1 (Rat.le_of_mul_le_mul_right h1 hp)
  have g2 := Rat.intCast_le_intCast.1 (Rat.le_of_mul_le_mul_right h2 hp)
  have : n.natAbs ≤ 1000 * 2 ^ 149 := by omega
  exact Nat.ble_eq_true_of_le this
theorem zero_ci {b : Nat} {n : Int} (h : NI b n) (hz : zeroK n = true) : NumK .f32 b 0 := by
  have h0 : n.natAbs = 0 := Nat.eq_of_beq_eq_true hz
  have : n = 0 := by omega
  subst this
  have e : ((0 : Int) : Rat) * 2 ^ (-149 : Int) = 0 := by rw [show ((0 : Int) : Rat) = 0 from rfl, Rat.zero_mul]
  have h' : NumK .f32 b (((0 : Int) : Rat) * 2 ^ (-149 : Int)) := h
  rw [e] at h'; exact h'

theorem root_good {n : Nat} {n1 n0 : Int} (h1 : NI (floatOfInt .f32 ((n : Int) - 1)) n1) (h0 : NI (floatOfInt .f32 (n : Int)) n0) (o1 : okI n1 = true) (o0 : okI n0 = true) {nr : Int → Int → Bool}
    (hn : ∀ {z : Nat × Nat} {a b : Int}, CI z.1 z.2 a b → okI a = true → okI b = true → nr a b = true → FoundR n z) : ∀ (f : Nat) {z : Nat × Nat} {a b : Int}, CI z.1 z.2 a b → rootsK nr (n - 2) n1 n0 f a b = true → RootGood n f z
  | 0, z, a, b, hz, hk => by
    have hk : ok2 a b = true := hk
    exact ci_fair hz (ok2_eq hk).1 (ok2_eq hk).2
  | f + 1, z, a, b, hz, hk => by
    have hk : (ok2 a b && (nr a b || !(smallK a && smallK b) || (zeroK a && zeroK b) || stepK (n - 2) n1 n0 a b (rootsK nr (n - 2) n1 n0 f))) = true := hk
    rw [Bool.and_eq_true] at hk
    obtain ⟨o, hk⟩ := hk
    have ho := ok2_eq o
    refine ⟨ci_fair hz ho.1 ho.2, ?_⟩
    simp only [Bool.or_eq_true] at hk
    rcases hk with ((hk | hk) | hk) | hk
    · exact Or.inl (hn hz ho.1 ho.2 hk)
    · refine Or.inr (Or.inl ?_)
      rintro ⟨x, y, c, bx, bY⟩
      rw [small_not hz.1 c.1 bx, small_not hz.2 c.2 bY] at hk
      cases hk
    · rw [Bool.and_eq_true] at hk
      exact Or.inr (Or.inr (Or.inl ⟨zero_ci hz.1 hk.1, zero_ci hz.2 hk.2⟩))
    · obtain ⟨z', u, v, e, c, hk⟩ := step_ci h1 h0 o1 o0 hz ho.1 ho.2 hk
      exact Or.inr (Or.inr (Or.inr ⟨z', e, root_good h1 h0 o1 o0 hn f c hk⟩))
end Go.Proofs.Ytjhicedblobjfaa
