/- The steps of the logarithm over rationals. -/
import Derived.Test.YtjhicedblobjfaaF3
namespace Go.Proofs.Ytjhicedblobjfaa
open Ieee

theorem lt_top64 {x : Rat} (h1 : x ≤ 1000000) (h2 : -1000000 ≤ x) : x < 2 ^ top FloatKind.f64.format ∧ -2 ^ top FloatKind.f64.format < x := by
  have h3 : (1000000 : Rat) < 2 ^ (20 : Int) := by decide +kernel
  have h4 := p2_lt (show (20 : Int) < top FloatKind.f64.format by decide)
  constructor <;> grind
theorem lt_top64' {x : Rat} (h1 : x ≤ 1000000) (h2 : -1000000 ≤ x) : x < 2 ^ (top FloatKind.f64.format - 1) ∧ -2 ^ (top FloatKind.f64.format - 1) < x := by
  have h3 : (1000000 : Rat) < 2 ^ (20 : Int) := by decide +kernel
  have h4 := p2_lt (show (20 : Int) < top FloatKind.f64.format - 1 by decide)
  constructor <;> grind

theorem rep_half {v : Rat} (h : Rep FloatKind.f64.format v) (h1 : 1 ≤ v) : Rep FloatKind.f64.format (v / 2) := by
  obtain ⟨s, c, l, rfl, h2, h3⟩ := h
  have hfb : FloatKind.f64.format.fractionBits = 52 := rfl
  have hlp : FloatKind.f64.format.leastPlace = -1074 := rfl
  have hp := p2_pos l
  have hl : -54 ≤ l := by
    apply Classical.byContradiction; intro hn
    have g1 : (c : Rat) ≤ 2 ^ (53 : Int) := by
      rw [show (2 : Rat) ^ (53 : Int) = ((2 ^ 53 : Nat) : Rat) from p2_nat 53]; exact Rat.natCast_le_natCast.2 (by rw [hfb] at h2; exact h2)
    have g2 : (2 : Rat) ^ l ≤ 2 ^ (-55 : Int) := p2_mono (by omega)
    have g3 := Rat.mul_le_mul_of_nonneg_right g1 (Rat.le_of_lt hp)
    have g4 := Rat.mul_le_mul_of_nonneg_left g2 (Rat.le_of_lt (p2_pos 53))
    rw [← p2_add 53 (-55)] at g4
    have g5 : (2 : Rat) ^ (53 + -55 : Int) < 1 := by decide +kernel
    have g6 : (0 : Rat) ≤ (c : Rat) * 2 ^ l := Rat.mul_nonneg Rat.natCast_nonneg (Rat.le_of_lt hp)
    cases s <;> simp [sg] at h1 <;> grind
  refine ⟨s, c, l - 1, ?_, h2, by omega⟩
  have e : (2 : Rat) ^ l = 2 * 2 ^ (l - 1) := by rw [← p2_succ]; congr 1; omega
  rw [e]
  cases s <;> simp [sg] <;> grind

theorem half_step {b : Nat} {v : Rat} (h : NumK .f64 b v) (h1 : 1 ≤ v) (h2 : v ≤ 1000000) : ∃ r, fdiv .f64 b 4611686018427387904 = some r ∧ NumK .f64 r (v / 2) := by
  have hb : v / 2 ≤ 1000000 := by grind
  have hc : -1000000 ≤ v / 2 := by grind
  have ht := lt_top64' hb hc
  obtain ⟨r, z, e, n, k⟩ := div_num h l64_two (by decide) ht.1 ht.2
  have := near_exact k (rep_half (num_rep h) h1)
  subst this
  exact ⟨r, e, n⟩

theorem rep_dbl {f : Format} {v : Rat} (h : Rep f v) : Rep f (v * 2) := by
  obtain ⟨s, c, l, rfl, h2, h3⟩ := h
  refine ⟨s, c, l + 1, ?_, h2, by omega⟩
  rw [p2_succ]
  cases s <;> simp [sg] <;> grind

theorem dbl_step {b : Nat} {v : Rat} (h : NumK .f64 b v) (h1 : -1000 ≤ v) (h2 : v ≤ 1000) : ∃ r, fmul .f64 b 4611686018427387904 = some r ∧ NumK .f64 r (v * 2) := by
  have ht := lt_top64 (x := v * 2) (by grind) (by grind)
  obtain ⟨r, z, e, n, k⟩ := mul_num h l64_two ht.1 ht.2
  have := near_exact k (rep_dbl (num_rep h))
  subst this
  exact ⟨r, e, n⟩

theorem rep_int (k : FloatKind) {n : Int} (h : n.natAbs ≤ 2 ^ 24) : Rep k.format (n : Rat) := num_rep (ofInt_num (k := k) n h)

theorem up_step {b : Nat} {n : Int} (h : NumK .f64 b (n : Rat)) (hn : n.natAbs ≤ 1000) : ∃ r, fadd .f64 b 4607182418800017408 = some r ∧ NumK .f64 r ((n + 1 : Int) : Rat) := by
  have e1 : (n : Rat) + 1 = ((n + 1 : Int) : Rat) := by rw [Rat.intCast_add]; rfl
  have b1 : ((n + 1 : Int) : Rat) ≤ ((1001 : Int) : Rat) := Rat.intCast_le_intCast.2 (by omega)
  have b2 : ((-1001 : Int) : Rat) ≤ ((n + 1 : Int) : Rat) := Rat.intCast_le_intCast.2 (by omega)
  have c1 : ((1001 : Int) : Rat) = 1001 := rfl
  have c2 : ((-1001 : Int) : Rat) = -1001 := rfl
  have ht := lt_top64 (x := (n : Rat) + 1) (by rw [e1]; grind) (by rw [e1]; grind)
  obtain ⟨r, z, e, m, k⟩ := add_num h l64_one ht.1 ht.2
  rw [e1] at k
  have := near_exact k (rep_int .f64 (by omega))
  subst this
  exact ⟨r, e, m⟩
theorem down_step {b : Nat} {n : Int} (h : NumK .f64 b (n : Rat)) (hn : n.natAbs ≤ 1000) : ∃ r, fsub .f64 b 4607182418800017408 = some r ∧ NumK .f64 r ((n - 1 : Int) : Rat) := by
  have e1 : (n : Rat) - 1 = ((n - 1 : Int) : Rat) := by rw [Rat.intCast_sub]; rfl
  have b1 : ((n - 1 : Int) : Rat) ≤ ((1001 : Int) : Rat) := Rat.intCast_le_intCast.2 (by omega)
  have b2 : ((-1001 : Int) : Rat) ≤ ((n - 1 : Int) : Rat) := Rat.intCast_le_intCast.2 (by omega)
  have c1 : ((1001 : Int) : Rat) = 1001 := rfl
  have c2 : ((-1001 : Int) : Rat) = -1001 := rfl
  have ht := lt_top64 (x := (n : Rat) - 1) (by rw [e1]; grind) (by rw [e1]; grind)
  obtain ⟨r, z, e, m, k⟩ := sub_num h l64_one ht.1 ht.2
  rw [e1] at k
  have := near_exact k (rep_int .f64 (by omega))
  subst this
  exact ⟨r, e, m⟩
theorem down2_step {b : Nat} {n : Int} (h : NumK .f64 b (n : Rat)) (hn : n.natAbs ≤ 1000) : ∃ r, fsub .f64 b 4611686018427387904 = some r ∧ NumK .f64 r ((n - 2 : Int) : Rat) := by
  have e1 : (n : Rat) - 2 = ((n - 2 : Int) : Rat) := by rw [Rat.intCast_sub]; rfl
  have b1 : ((n - 2 : Int) : Rat) ≤ ((1002 : Int) : Rat) := Rat.intCast_le_intCast.2 (by omega)
  have b2 : ((-1002 : Int) : Rat) ≤ ((n - 2 : Int) : Rat) := Rat.intCast_le_intCast.2 (by omega)
  have c1 : ((1002 : Int) : Rat) = 1002 := rfl
  have c2 : ((-1002 : Int) : Rat) = -1002 := rfl
  have ht := lt_top64 (x := (n : Rat) - 2) (by rw [e1]; grind) (by rw [e1]; grind)
  obtain ⟨r, z, e, m, k⟩ := sub_num h l64_two ht.1 ht.2
  rw [e1] at k
  have := near_exact k (rep_int .f64 (by omega))
  subst this
  exact ⟨r, e, m⟩

theorem div_le {a b c : Rat} (hb : 0 < b) (h : a ≤ c * b) : a / b ≤ c := by
  have e : a / b * b = a := Rat.div_mul_cancel (by grind)
  exact Rat.le_of_mul_le_mul_right (show a / b * b ≤ c * b by rw [e]; exact h) hb
theorem le_div {a b c : Rat} (hb : 0 < b) (h : c * b ≤ a) : c ≤ a / b := by
  have e : a / b * b = a := Rat.div_mul_cancel (by grind)
  exact Rat.le_of_mul_le_mul_right (show c * b ≤ a / b * b by rw [e]; exact h) hb

theorem rq (c d l : Nat) (s : Bool) (x : Rat) (hc : c ≤ 2 ^ 24) (hd : d = 2 ^ l) (hl : l ≤ 100) (hx : x * (d : Rat) = sg s (c : Rat)) : Rep FloatKind.f64.format x := rep_frac .f64 s x hc hd hl hx

theorem quot_step {b : Nat} {v : Rat} (h : NumK .f64 b v) (h1 : 3 / 4 ≤ v) (h2 : v ≤ 3 / 2) :
    ∃ r1 r2 r3 r4 s, fsub .f64 b 4607182418800017408 = some r1 ∧ fadd .f64 b 4607182418800017408 = some r2 ∧ fdiv .f64 r1 r2 = some r3 ∧ fmul .f64 r3 r3 = some r4 ∧
      NumK .f64 r3 s ∧ -(5 / 32) ≤ s ∧ s ≤ 5 / 16 ∧ (1 ≤ v → 0 ≤ s) ∧ ∃ u, NumK .f64 r4 u ∧ 0 ≤ u ∧ u ≤ 25 / 256 := by
  have t1 := lt_top64 (x := v - 1) (by grind) (by grind)
  have t2 := lt_top64 (x := v + 1) (by grind) (by grind)
  obtain ⟨r1, s1, e1, n1, k1⟩ := sub_num h l64_one t1.1 t1.2
  obtain ⟨r2, s2, e2, n2, k2⟩ := add_num h l64_one t2.1 t2.2
  have a1 := near_ge k1 (rq 1 4 2 true (-1/4) (by decide) (by decide) (by decide) (by decide +kernel)) (by grind)
  have a2 := near_le k1 (rq 1 2 1 false (1/2) (by decide) (by decide) (by decide) (by decide +kernel)) (by grind)
  have a3 := near_ge k2 (rq 7 4 2 false (7/4) (by decide) (by decide) (by decide) (by decide +kernel)) (by grind)
  have a5 : 1 ≤ v → 0 ≤ s1 := fun hv => near_ge k1 (rep_nat .f64 (n := 0) (by decide)) (by grind)
  have hpos : 0 < s2 := by grind
  have q1 : s1 / s2 ≤ 5 / 16 := div_le hpos (by grind)
  have q2 : -(5 / 32) ≤ s1 / s2 := le_div hpos (by grind)
  have t3 := lt_top64' (x := s1 / s2) (by grind) (by grind)
  obtain ⟨r3, s, e3, n3, k3⟩ := div_num n1 n2 (by grind) t3.1 t3.2
  have b1 := near_ge k3 (rq 5 32 5 true (-(5/32)) (by decide) (by decide) (by decide) (by decide +kernel)) q2
  have b2 := near_le k3 (rq 5 16 4 false (5/16) (by decide) (by decide) (by decide) (by decide +kernel)) q1
  have b3 : 1 ≤ v → 0 ≤ s := fun hv => near_ge k3 (rep_nat .f64 (n := 0) (by decide)) (le_div hpos (by have := a5 hv; grind))
  have m1 : Ab s (5 / 16) := ⟨by grind, b2⟩
  have m2 := ab_mul m1 m1
  have m3 : (5 / 16 : Rat) * (5 / 16) = 25 / 256 := by decide +kernel
  rw [m3] at m2
  have hs0 : 0 ≤ s * s := by rcases Rat.le_total (a := 0) (b := s) with h | h; exact Rat.mul_nonneg h h; have := Rat.mul_nonneg (show 0 ≤ -s by grind) (show 0 ≤ -s by grind); grind
  have t4 := lt_top64 (x := s * s) (by have := m2.2; grind) (by grind)
  obtain ⟨r4, u, e4, n4, k4⟩ := mul_num n3 n3 t4.1 t4.2
  refine ⟨r1, r2, r3, r4, s, e1, e2, e3, e4, n3, b1, b2, b3, u, n4, near_ge k4 (rep_nat .f64 (n := 0) (by decide)) hs0, ?_⟩
  exact near_le k4 (rq 25 256 8 false (25/256) (by decide) (by decide) (by decide) (by decide +kernel)) m2.2

theorem horner_step {u q kb : Nat} {uv qv kv : Rat} (hu : NumK .f64 u uv) (hq : NumK .f64 q qv) (hk : NumK .f64 kb kv) (u0 : 0 ≤ uv) (u1 : uv ≤ 25 / 256) (q0 : 0 ≤ qv) (q1 : qv ≤ 9 / 8) (k1 : 1 ≤ kv) :
    ∃ r1 r2 r3 z, fdiv .f64 4607182418800017408 kb = some r1 ∧ fmul .f64 u q = some r2 ∧ fadd .f64 r1 r2 = some r3 ∧ NumK .f64 r3 z ∧ 0 ≤ z ∧ z ≤ 9 / 8 ∧ (kv = 1 → 1 ≤ z) := by
  have hkp : 0 < kv := by grind
  have d1 : 1 / kv ≤ 1 := div_le hkp (by grind)
  have d0 : 0 ≤ 1 / kv := le_div hkp (by grind)
  have t1 := lt_top64' (x := 1 / kv) (by grind) (by grind)
  obtain ⟨r1, z1, e1, n1, m1⟩ := div_num l64_one hk (by grind) t1.1 t1.2
  have a1 := near_le m1 (rep_nat .f64 (n := 1) (by decide)) d1
  have a0 := near_ge m1 (rep_nat .f64 (n := 0) (by decide)) d0
  have p0 := Rat.mul_nonneg u0 q0
  have p1 : uv * qv ≤ 1 / 8 := by
    have g1 := Rat.mul_le_mul_of_nonneg_left q1 u0
    have g2 := Rat.mul_le_mul_of_nonneg_right u1 (show (0 : Rat) ≤ 9 / 8 by decide +kernel)
    grind
  have t2 := lt_top64 (x := uv * qv) (by grind) (by grind)
  obtain ⟨r2, z2, e2, n2, m2⟩ := mul_num hu hq t2.1 t2.2
  have b0 := near_ge m2 (rep_nat .f64 (n := 0) (by decide)) p0
  have b1 := near_le m2 (rq 1 8 3 false (1/8) (by decide) (by decide) (by decide) (by decide +kernel)) p1
  have c1 : ((1 : Nat) : Rat) = 1 := rfl
  have c0 : ((0 : Nat) : Rat) = 0 := rfl
  rw [c1] at a1; rw [c0] at a0 b0
  have t3 := lt_top64 (x := z1 + z2) (by grind) (by grind)
  obtain ⟨r3, z, e3, n3, m3⟩ := add_num n1 n2 t3.1 t3.2
  refine ⟨r1, r2, r3, z, e1, e2, e3, n3, ?_, ?_, ?_⟩
  · have := near_ge m3 (rep_nat .f64 (n := 0) (by decide)) (by rw [c0]; grind); rw [c0] at this; exact this
  · exact near_le m3 (rq 9 8 3 false (9/8) (by decide) (by decide) (by decide) (by decide +kernel)) (by grind)
  · intro hk1
    have hz1 : z1 = 1 := by
      have e : 1 / kv = ((1 : Nat) : Rat) := by rw [hk1]; decide +kernel
      rw [e] at m1
      exact near_exact m1 (rep_nat .f64 (n := 1) (by decide))
    have := near_ge m3 (rep_nat .f64 (n := 1) (by decide)) (by rw [c1]; grind); rw [c1] at this; exact this

/-- what is known of a logarithm: of v, with 2^n -/
def LogIs (v : Rat) (n : Int) (y : Rat) : Prop :=
  3 / 4 * 2 ^ n ≤ v ∧ v < 3 / 2 * 2 ^ n ∧ (n : Rat) * lnTwo - 23 / 64 ≤ y ∧ y ≤ (n : Rat) * lnTwo + 23 / 32 ∧ (2 ^ n ≤ v → (n : Rat) * lnTwo - 1 / 1024 ≤ y)

theorem final_step {sb qb eb : Nat} {s q : Rat} {n : Int} (hs : NumK .f64 sb s) (hq : NumK .f64 qb q) (he : NumK .f64 eb (n : Rat)) (s0 : -(5 / 32) ≤ s) (s1 : s ≤ 5 / 16) (q0 : 1 ≤ q) (q1 : q ≤ 9 / 8) (hn : n.natAbs ≤ 20) :
    ∃ r1 r2 r3 r4 y, fmul .f64 sb qb = some r1 ∧ fmul .f64 4611686018427387904 r1 = some r2 ∧ fmul .f64 eb 4604418534313441775 = some r3 ∧ fadd .f64 r2 r3 = some r4 ∧ NumK .f64 r4 y ∧
      (n : Rat) * lnTwo - 23 / 64 ≤ y ∧ y ≤ (n : Rat) * lnTwo + 23 / 32 ∧ (0 ≤ s → (n : Rat) * lnTwo - 1 / 1024 ≤ y) := by
  have p1 : s * q ≤ 45 / 128 := by
    have g1 := Rat.mul_le_mul_of_nonneg_right s1 (show 0 ≤ q by grind)
    grind
  have p0 : -(45 / 256) ≤ s * q := by
    have g1 := Rat.mul_le_mul_of_nonneg_right s0 (show 0 ≤ q by grind)
    grind
  have t1 := lt_top64 (x := s * q) (by grind) (by grind)
  obtain ⟨r1, z1, e1, n1, m1⟩ := mul_num hs hq t1.1 t1.2
  have a1 := near_le m1 (rq 45 128 7 false (45/128) (by decide) (by decide) (by decide) (by decide +kernel)) p1
  have a0 := near_ge m1 (rq 45 256 8 true (-(45/256)) (by decide) (by decide) (by decide) (by decide +kernel)) p0
  have as : 0 ≤ s → 0 ≤ z1 := fun h => near_ge m1 (rep_nat .f64 (n := 0) (by decide)) (Rat.mul_nonneg h (by grind))
  have t2 := lt_top64 (x := 2 * z1) (by grind) (by grind)
  obtain ⟨r2, z2, e2, n2, m2⟩ := mul_num l64_two n1 t2.1 t2.2
  have hz2 : z2 = 2 * z1 := by
    have := rep_dbl (num_rep n1)
    rw [Rat.mul_comm] at this
    exact near_exact m2 this
  have l1 : lnTwo ≤ 7 / 10 := by decide +kernel
  have l0 : 0 ≤ lnTwo := by decide +kernel
  have hnr : Ab (n : Rat) 20 := by
    have c1 : ((20 : Int) : Rat) = 20 := rfl
    have c2 : ((-20 : Int) : Rat) = -20 := rfl
    exact ⟨by have := Rat.intCast_le_intCast.2 (show (-20 : Int) ≤ n by omega); grind, by have := Rat.intCast_le_intCast.2 (show n ≤ (20 : Int) by omega); grind⟩
  have hnl : Ab ((n : Rat) * lnTwo) 16 := ab_mono (ab_mul hnr ⟨by grind, l1⟩) (by decide +kernel)
  have t3 := lt_top64 (x := (n : Rat) * lnTwo) (by have := hnl.2; grind) (by have := hnl.1; grind)
  obtain ⟨r3, z3, e3, n3, m3⟩ := mul_num he l64_ln t3.1 t3.2
  have er := near_err m3 hnl.2 hnl.1
  have ee : 16 * ue FloatKind.f64.format + et FloatKind.f64.format ≤ 1 / 4096 := by decide +kernel
  generalize 16 * ue FloatKind.f64.format + et FloatKind.f64.format = E1 at *
  have hz3 : Ab z3 17 := ⟨by have := hnl.1; grind, by have := hnl.2; grind⟩
  have t4 := lt_top64 (x := z2 + z3) (by have := hz3.2; grind) (by have := hz3.1; grind)
  obtain ⟨r4, y, e4, n4, m4⟩ := add_num n2 n3 t4.1 t4.2
  have er2 := near_err (B := 18) m4 (by have := hz3.2; grind) (by have := hz3.1; grind)
  have ee2 : 18 * ue FloatKind.f64.format + et FloatKind.f64.format ≤ 1 / 4096 := by decide +kernel
  generalize 18 * ue FloatKind.f64.format + et FloatKind.f64.format = E2 at *
  refine ⟨r1, r2, r3, r4, y, e1, e2, e3, e4, n4, by grind, by grind, fun h => ?_⟩
  have := as h
  grind
end Go.Proofs.Ytjhicedblobjfaa
