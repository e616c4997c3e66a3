/- Numbers of the program as whole numbers of the least place: a reckoning that the kernel does fast, and that it is the program's. -/
import Derived.Test.YtjhicedblobjfaaF2
namespace Go.Proofs.Ytjhicedblobjfaa
open Ieee

/-- n / 2^d as a whole number, ties to even -/
def rne (n d : Nat) : Nat := if d = 0 then n else (n + 2 ^ (d - 1) - 1 + n / 2 ^ d % 2) / 2 ^ d
/-- n rounded to p digits, and to multiples of 2^m, in units of 2^m -/
def rn (p m n : Nat) : Nat := let d := max (n.log2 + 1 - p) m; rne n d * 2 ^ (d - m)

theorem rne_spec (n d : Nat) : Rne ((n : Rat) * 2 ^ (-(d : Int))) (rne n d) := by
  have h : (2 * (rne n d * 2 ^ d) < 2 * n + 2 ^ d ∨ (2 * (rne n d * 2 ^ d) = 2 * n + 2 ^ d ∧ rne n d % 2 = 0)) ∧
      (2 * n < 2 * (rne n d * 2 ^ d) + 2 ^ d ∨ (2 * n = 2 * (rne n d * 2 ^ d) + 2 ^ d ∧ rne n d % 2 = 0)) := by
    unfold rne
    by_cases hd : d = 0
    · subst hd; simp
    · rw [if_neg hd]
      obtain ⟨k, rfl⟩ : ∃ k, d = k + 1 := ⟨d - 1, by omega⟩
      simp only [Nat.add_sub_cancel]
      have hp := Nat.two_pow_pos k
      have h2 : 2 ^ (k + 1) = 2 * 2 ^ k := by rw [Nat.pow_succ]; omega
      have hm := Nat.div_add_mod n (2 ^ (k + 1))
      have hl := Nat.mod_lt n (Nat.two_pow_pos (k + 1))
      generalize hq : n / 2 ^ (k + 1) = q at *
      generalize hr : n % 2 ^ (k + 1) = r at *
      rw [h2] at *
      generalize 2 ^ k = g at *
      have hqc : 2 * g * q = q * (2 * g) := Nat.mul_comm _ _
      by_cases hup : 2 * g ≤ r + g - 1 + q % 2
      · have e : (n + g - 1 + q % 2) / (2 * g) = q + 1 := by
          have : n + g - 1 + q % 2 = (r + g - 1 + q % 2 - 2 * g) + 2 * g * (q + 1) := by rw [Nat.mul_add]; omega
          rw [this, Nat.add_mul_div_left _ _ (by omega), Nat.div_eq_of_lt (by omega)]; omega
        rw [e, Nat.add_mul]
        omega
      · have e : (n + g - 1 + q % 2) / (2 * g) = q := by
          have : n + g - 1 + q % 2 = (r + g - 1 + q % 2) + 2 * g * q := by omega
          rw [this, Nat.add_mul_div_left _ _ (by omega), Nat.div_eq_of_lt (by omega)]; omega
        rw [e]
        omega
  generalize rne n d = c at *
  have hp := p2_pos (d : Int)
  have hn := p2_pos (-(d : Int))
  have e1 : (2 : Rat) ^ (-(d : Int)) * 2 ^ (d : Int) = 1 := p2_neg_mul d
  have e2 : (2 : Rat) ^ (d : Int) = ((2 ^ d : Nat) : Rat) := p2_nat d
  have lift_le : ∀ {a b : Nat}, a ≤ b → (a : Rat) * 2 ^ (-(d : Int)) ≤ (b : Rat) * 2 ^ (-(d : Int)) := fun h => Rat.mul_le_mul_of_nonneg_right (Rat.natCast_le_natCast.2 h) (Rat.le_of_lt hn)
  have lift_lt : ∀ {a b : Nat}, a < b → (a : Rat) * 2 ^ (-(d : Int)) < (b : Rat) * 2 ^ (-(d : Int)) := fun h => Rat.mul_lt_mul_of_pos_right (Rat.natCast_lt_natCast.2 h) hn
  have ec : ((2 * (c * 2 ^ d) : Nat) : Rat) * 2 ^ (-(d : Int)) = 2 * (c : Rat) := by
    have : ((2 * (c * 2 ^ d) : Nat) : Rat) = 2 * ((c : Rat) * 2 ^ (d : Int)) := by rw [e2]; push_cast; rfl
    rw [this]; grind
  have en : ((2 * n + 2 ^ d : Nat) : Rat) * 2 ^ (-(d : Int)) = 2 * ((n : Rat) * 2 ^ (-(d : Int))) + 1 := by
    have : ((2 * n + 2 ^ d : Nat) : Rat) = 2 * (n : Rat) + 2 ^ (d : Int) := by rw [e2]; push_cast; rfl
    rw [this]; grind
  have en2 : ((2 * n : Nat) : Rat) * 2 ^ (-(d : Int)) = 2 * ((n : Rat) * 2 ^ (-(d : Int))) := by
    have : ((2 * n : Nat) : Rat) = 2 * (n : Rat) := by push_cast; rfl
    rw [this]; grind
  have ec2 : ((2 * (c * 2 ^ d) + 2 ^ d : Nat) : Rat) * 2 ^ (-(d : Int)) = 2 * (c : Rat) + 1 := by
    have : ((2 * (c * 2 ^ d) + 2 ^ d : Nat) : Rat) = 2 * ((c : Rat) * 2 ^ (d : Int)) + 2 ^ (d : Int) := by rw [e2]; push_cast; rfl
    rw [this]; grind
  obtain ⟨h1, h2⟩ := h
  refine ⟨?_, ?_, ?_⟩
  · have : 2 * (c * 2 ^ d) ≤ 2 * n + 2 ^ d := by omega
    have := lift_le this
    rw [ec, en] at this; grind
  · have : 2 * n ≤ 2 * (c * 2 ^ d) + 2 ^ d := by omega
    have := lift_le this
    rw [ec2, en2] at this; grind
  · intro ht
    rcases ht with ht | ht
    · rcases h1 with h1 | h1
      · have := lift_lt h1
        rw [ec, en] at this; grind
      · exact h1.2
    · rcases h2 with h2 | h2
      · have := lift_lt h2
        rw [ec2, en2] at this; grind
      · exact h2.2

/-- rn rounds as the format does: numbers in units of 2^e, the result in units of 2^(e + m) -/
theorem rn_near (f : Format) (e : Int) (m n : Nat) (h : e + m = f.leastPlace ∨ (m = 0 ∧ f.leastPlace ≤ e)) :
    Near f ((n : Rat) * 2 ^ e) ((rn (f.fractionBits + 1) m n : Rat) * 2 ^ (e + m)) := by
  by_cases hn : n = 0
  · subst hn
    have : rn (f.fractionBits + 1) m 0 = 0 := by
      unfold rn rne
      simp only
      by_cases hd : max (Nat.log2 0 + 1 - (f.fractionBits + 1)) m = 0
      · rw [if_pos hd]; simp
      · rw [if_neg hd]
        have h1 := Nat.two_pow_pos (max (Nat.log2 0 + 1 - (f.fractionBits + 1)) m - 1)
        have h2 : 2 ^ (max (Nat.log2 0 + 1 - (f.fractionBits + 1)) m - 1) < 2 ^ (max (Nat.log2 0 + 1 - (f.fractionBits + 1)) m) := Nat.pow_lt_pow_right (by decide) (by omega)
        rw [Nat.zero_div, Nat.zero_mod, Nat.div_eq_of_lt (by omega)]; simp
    rw [this]; left; constructor <;> simp
  · have hlead := lead_nat hn e
    have hpos : (0 : Rat) < (n : Rat) * 2 ^ e := Rat.mul_pos (Rat.natCast_pos.2 (by omega)) (p2_pos e)
    unfold rn
    simp only
    generalize hd : max (n.log2 + 1 - (f.fractionBits + 1)) m = d
    have key : ((rne n d * 2 ^ (d - m) : Nat) : Rat) * 2 ^ (e + m) = (rne n d : Rat) * 2 ^ (e + d) := by
      push_cast
      have : (2 : Rat) ^ (e + d) = ((2 ^ (d - m) : Nat) : Rat) * 2 ^ (e + m) := by rw [← p2_nat, ← p2_add]; congr 1; omega
      rw [this]; push_cast; grind
    rw [key]
    by_cases hex : d = 0
    · -- exact
      subst hex
      have hr : Rep f ((n : Rat) * 2 ^ e) := by
        refine ⟨false, n, e, rfl, ?_, by omega⟩
        have h1 : n < 2 ^ (n.log2 + 1) := Nat.lt_log2_self
        have h2 : 2 ^ (n.log2 + 1) ≤ 2 ^ (f.fractionBits + 1) := Nat.pow_le_pow_right (by decide) (by omega)
        omega
      have e0 : rne n 0 = n := by simp [rne]
      rw [e0, show e + ((0 : Nat) : Int) = e by omega]
      exact near_rep hr
    · refine Or.inr (Or.inl ⟨hpos, e + n.log2, e + d, rne n d, hlead, by omega, ?_, rfl⟩)
      have : (n : Rat) * 2 ^ e * 2 ^ (-(e + d)) = (n : Rat) * 2 ^ (-(d : Int)) := by rw [Rat.mul_assoc, ← p2_add]; congr 2; omega
      rw [this]
      exact rne_spec n d

/-- the same with a sign -/
def rnI (p m : Nat) (z : Int) : Int := match z with
  | .ofNat n => .ofNat (rn p m n)
  | .negSucc n => -(.ofNat (rn p m (n + 1)))

theorem rnI_near (f : Format) (e : Int) (m : Nat) (z : Int) (h : e + m = f.leastPlace ∨ (m = 0 ∧ f.leastPlace ≤ e)) :
    Near f ((z : Rat) * 2 ^ e) ((rnI (f.fractionBits + 1) m z : Rat) * 2 ^ (e + m)) := by
  cases z with
  | ofNat n => exact rn_near f e m n h
  | negSucc n =>
    have h1 := near_neg (rn_near f e m (n + 1) h)
    have e1 : ((Int.negSucc n : Int) : Rat) = -((n + 1 : Nat) : Rat) := by
      have : (Int.negSucc n : Int) = -((n + 1 : Nat) : Int) := rfl
      rw [this, Rat.intCast_neg]; rfl
    have e2 : ((rnI (f.fractionBits + 1) m (Int.negSucc n) : Int) : Rat) = -((rn (f.fractionBits + 1) m (n + 1) : Nat) : Rat) := by
      show ((-(Int.ofNat (rn (f.fractionBits + 1) m (n + 1))) : Int) : Rat) = _
      rw [Rat.intCast_neg]; rfl
    rw [e1, e2, Rat.neg_mul, Rat.neg_mul]
    exact h1

/-- a 32-bit float as a whole number of 2^-149 -/
def NI (b : Nat) (n : Int) : Prop := NumK .f32 b ((n : Rat) * 2 ^ (-149 : Int))
def CI (a b : Nat) (x y : Int) : Prop := NI a x ∧ NI b y
theorem CI.num {a b : Nat} {x y : Int} (h : CI a b x y) : CNum a b ((x : Rat) * 2 ^ (-149 : Int)) ((y : Rat) * 2 ^ (-149 : Int)) := h

/-- |n| ≤ 2^179: below 2^30 -/
def okI (n : Int) : Bool := decide (n.natAbs ≤ 2 ^ 179)
theorem okI_ab {n : Int} (h : okI n = true) : Ab ((n : Rat) * 2 ^ (-149 : Int)) (2 ^ (30 : Int)) := by
  have h1 : n.natAbs ≤ 2 ^ 179 := of_decide_eq_true h
  have h2 : n ≤ ((2 ^ 179 : Nat) : Int) := by omega
  have h3 : -((2 ^ 179 : Nat) : Int) ≤ n := by omega
  have hp := p2_pos (-149)
  have e : ((2 ^ 179 : Nat) : Rat) * 2 ^ (-149 : Int) = 2 ^ (30 : Int) := by rw [lit_p2, ← p2_add]; rfl
  have g2 := Rat.mul_le_mul_of_nonneg_right (Rat.intCast_le_intCast.2 h2) (Rat.le_of_lt hp)
  have g3 := Rat.mul_le_mul_of_nonneg_right (Rat.intCast_le_intCast.2 h3) (Rat.le_of_lt hp)
  rw [Rat.intCast_neg] at g3
  have e' : (((2 ^ 179 : Nat) : Int) : Rat) * 2 ^ (-149 : Int) = 2 ^ (30 : Int) := e
  constructor
  · have : -(((2 ^ 179 : Nat) : Int) : Rat) * 2 ^ (-149 : Int) = -2 ^ (30 : Int) := by rw [Rat.neg_mul, e']
    grind
  · grind

def r64 (z : Int) : Int := rnI 53 0 z
def r32 (z : Int) : Int := rnI 24 0 z
def n32 (z : Int) : Int := rnI 24 149 z

theorem p298 : (2 : Rat) ^ (-149 : Int) * 2 ^ (-149 : Int) = 2 ^ (-298 : Int) := by rw [← p2_add]; rfl
theorem r64_near (z : Int) : Near FloatKind.f64.format ((z : Rat) * 2 ^ (-298 : Int)) ((r64 z : Rat) * 2 ^ (-298 : Int)) := by
  have := rnI_near FloatKind.f64.format (-298) 0 z (Or.inr ⟨rfl, by decide⟩)
  exact this
theorem n32_near (z : Int) : Near FloatKind.f32.format ((z : Rat) * 2 ^ (-298 : Int)) ((n32 z : Rat) * 2 ^ (-149 : Int)) := by
  have := rnI_near FloatKind.f32.format (-298) 149 z (Or.inl rfl)
  exact this
theorem r32_near (z : Int) : Near FloatKind.f32.format ((z : Rat) * 2 ^ (-149 : Int)) ((r32 z : Rat) * 2 ^ (-149 : Int)) := by
  have := rnI_near FloatKind.f32.format (-149) 0 z (Or.inr ⟨rfl, by decide⟩)
  exact this

def mulI (a b c d : Int) : Int × Int := (n32 (r64 (a * c - b * d)), n32 (r64 (a * d + b * c)))
def addI (a b c d : Int) : Int × Int := (r32 (a + c), r32 (b + d))
def subI (a b c d : Int) : Int × Int := (r32 (a - c), r32 (b - d))
def powI (a b : Int) : Int := r64 (a * a + b * b)

theorem ci_mul {a b c d : Nat} {x y z t : Int} (h1 : CI a b x y) (h2 : CI c d z t) (ox : okI x = true) (oy : okI y = true) (oz : okI z = true) (ot : okI t = true) :
    ∃ r, mulF a b c d = some r ∧ CI r.1 r.2 (mulI x y z t).1 (mulI x y z t).2 := by
  obtain ⟨r, m, n, p, q, e, hc, k1, k2, k3, k4⟩ := mulF_num h1.num h2.num (okI_ab ox) (okI_ab oy) (okI_ab oz) (okI_ab ot) Rat.le_refl
  have e1 : (x : Rat) * 2 ^ (-149 : Int) * ((z : Rat) * 2 ^ (-149 : Int)) - (y : Rat) * 2 ^ (-149 : Int) * ((t : Rat) * 2 ^ (-149 : Int)) = ((x * z - y * t : Int) : Rat) * 2 ^ (-298 : Int) := by
    rw [← p298, Rat.intCast_sub, Rat.intCast_mul, Rat.intCast_mul]; grind
  have e2 : (x : Rat) * 2 ^ (-149 : Int) * ((t : Rat) * 2 ^ (-149 : Int)) + (y : Rat) * 2 ^ (-149 : Int) * ((z : Rat) * 2 ^ (-149 : Int)) = ((x * t + y * z : Int) : Rat) * 2 ^ (-298 : Int) := by
    rw [← p298, Rat.intCast_add, Rat.intCast_mul, Rat.intCast_mul]; grind
  rw [e1] at k1
  rw [e2] at k2
  have u1 := near_unique k1 (r64_near _)
  have u2 := near_unique k2 (r64_near _)
  subst u1 u2
  have v1 := near_unique k3 (n32_near _)
  have v2 := near_unique k4 (n32_near _)
  subst v1 v2
  exact ⟨r, e, hc⟩

theorem ok_sum {x y : Int} (h1 : okI x = true) (h2 : okI y = true) : Ab ((x : Rat) * 2 ^ (-149 : Int) + (y : Rat) * 2 ^ (-149 : Int)) (2 ^ (31 : Int)) := by
  have := ab_add (okI_ab h1) (okI_ab h2)
  have e : (2 : Rat) ^ (30 : Int) + 2 ^ (30 : Int) = 2 ^ (31 : Int) := by decide +kernel
  rw [e] at this; exact this
theorem ok_dif {x y : Int} (h1 : okI x = true) (h2 : okI y = true) : Ab ((x : Rat) * 2 ^ (-149 : Int) - (y : Rat) * 2 ^ (-149 : Int)) (2 ^ (31 : Int)) := by
  have := ab_sub (okI_ab h1) (okI_ab h2)
  have e : (2 : Rat) ^ (30 : Int) + 2 ^ (30 : Int) = 2 ^ (31 : Int) := by decide +kernel
  rw [e] at this; exact this

theorem ci_add {a b c d : Nat} {x y z t : Int} (h1 : CI a b x y) (h2 : CI c d z t) (ox : okI x = true) (oy : okI y = true) (oz : okI z = true) (ot : okI t = true) :
    ∃ r, addF a b c d = some r ∧ CI r.1 r.2 (addI x y z t).1 (addI x y z t).2 := by
  obtain ⟨r, p, q, e, hc, k1, k2⟩ := addF_num h1.num h2.num (ok_sum ox oz) (ok_sum oy ot) (p2_lt (by decide))
  have e1 : ∀ u v : Int, (u : Rat) * 2 ^ (-149 : Int) + (v : Rat) * 2 ^ (-149 : Int) = ((u + v : Int) : Rat) * 2 ^ (-149 : Int) := fun u v => by rw [Rat.intCast_add]; grind
  rw [e1] at k1 k2
  have v1 := near_unique k1 (r32_near _)
  have v2 := near_unique k2 (r32_near _)
  subst v1 v2
  exact ⟨r, e, hc⟩
theorem ci_sub {a b c d : Nat} {x y z t : Int} (h1 : CI a b x y) (h2 : CI c d z t) (ox : okI x = true) (oy : okI y = true) (oz : okI z = true) (ot : okI t = true) :
    ∃ r, subF a b c d = some r ∧ CI r.1 r.2 (subI x y z t).1 (subI x y z t).2 := by
  obtain ⟨r, p, q, e, hc, k1, k2⟩ := subF_num h1.num h2.num (ok_dif ox oz) (ok_dif oy ot) (p2_lt (by decide))
  have e1 : ∀ u v : Int, (u : Rat) * 2 ^ (-149 : Int) - (v : Rat) * 2 ^ (-149 : Int) = ((u - v : Int) : Rat) * 2 ^ (-149 : Int) := fun u v => by rw [Rat.intCast_sub]; grind
  rw [e1] at k1 k2
  have v1 := near_unique k1 (r32_near _)
  have v2 := near_unique k2 (r32_near _)
  subst v1 v2
  exact ⟨r, e, hc⟩

theorem ni_add {a b : Nat} {x y : Int} (h1 : NI a x) (h2 : NI b y) (ox : okI x = true) (oy : okI y = true) : ∃ r, fadd .f32 a b = some r ∧ NI r (r32 (x + y)) := by
  have t := ab_top .f32 (ok_sum ox oy) (p2_lt (by decide))
  obtain ⟨r, z, e, n, k⟩ := add_num h1 h2 t.1 t.2
  have e1 : (x : Rat) * 2 ^ (-149 : Int) + (y : Rat) * 2 ^ (-149 : Int) = ((x + y : Int) : Rat) * 2 ^ (-149 : Int) := by rw [Rat.intCast_add]; grind
  rw [e1] at k
  have := near_unique k (r32_near _)
  subst this
  exact ⟨r, e, n⟩
theorem ni_sub {a b : Nat} {x y : Int} (h1 : NI a x) (h2 : NI b y) (ox : okI x = true) (oy : okI y = true) : ∃ r, fsub .f32 a b = some r ∧ NI r (r32 (x - y)) := by
  have t := ab_top .f32 (ok_dif ox oy) (p2_lt (by decide))
  obtain ⟨r, z, e, n, k⟩ := sub_num h1 h2 t.1 t.2
  have e1 : (x : Rat) * 2 ^ (-149 : Int) - (y : Rat) * 2 ^ (-149 : Int) = ((x - y : Int) : Rat) * 2 ^ (-149 : Int) := by rw [Rat.intCast_sub]; grind
  rw [e1] at k
  have := near_unique k (r32_near _)
  subst this
  exact ⟨r, e, n⟩
theorem ni_mul {a b : Nat} {x y : Int} (h1 : NI a x) (h2 : NI b y) (ox : okI x = true) (oy : okI y = true) : ∃ r, fmul .f32 a b = some r ∧ NI r (n32 (x * y)) := by
  have hab := ab_mul (okI_ab ox) (okI_ab oy)
  have hb : (2 : Rat) ^ (30 : Int) * 2 ^ (30 : Int) < 2 ^ (126 : Int) := by decide +kernel
  have t := ab_top .f32 hab hb
  obtain ⟨r, z, e, n, k⟩ := mul_num h1 h2 t.1 t.2
  have e1 : (x : Rat) * 2 ^ (-149 : Int) * ((y : Rat) * 2 ^ (-149 : Int)) = ((x * y : Int) : Rat) * 2 ^ (-298 : Int) := by rw [← p298, Rat.intCast_mul]; grind
  rw [e1] at k
  have := near_unique k (n32_near _)
  subst this
  exact ⟨r, e, n⟩
theorem ci_scale {a b c : Nat} {x y z : Int} (h1 : CI a b x y) (h2 : NI c z) (ox : okI x = true) (oy : okI y = true) (oz : okI z = true) :
    ∃ r, scaleF a b c = some r ∧ CI r.1 r.2 (n32 (x * z)) (n32 (y * z)) := by
  obtain ⟨r, e1, n1⟩ := ni_mul h1.1 h2 ox oz
  obtain ⟨s, e2, n2⟩ := ni_mul h1.2 h2 oy oz
  exact ⟨(r, s), by simp [scaleF, e1, e2], n1, n2⟩
end Go.Proofs.Ytjhicedblobjfaa
