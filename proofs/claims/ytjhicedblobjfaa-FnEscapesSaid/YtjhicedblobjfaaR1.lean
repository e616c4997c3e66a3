/- Rounding to a float, over rationals: what the model's 'nearest' gives. No program in sight. -/
import Derived.Laws.FloatArith
namespace Go.Proofs.Ytjhicedblobjfaa
open Ieee

/-! ### powers of two -/
theorem two_ne : (2 : Rat) ≠ 0 := by decide
theorem p2_pos (e : Int) : (0 : Rat) < 2 ^ e := Rat.zpow_pos (by decide)
theorem p2_add (a b : Int) : (2 : Rat) ^ (a + b) = 2 ^ a * 2 ^ b := Rat.zpow_add two_ne a b
theorem p2_nat (n : Nat) : (2 : Rat) ^ (n : Int) = ((2 ^ n : Nat) : Rat) := by
  rw [Rat.zpow_natCast, Rat.natCast_pow]; rfl
theorem p2_zero : (2 : Rat) ^ (0 : Int) = 1 := Rat.zpow_zero 2
theorem p2_neg_mul (a : Int) : (2 : Rat) ^ (-a) * 2 ^ a = 1 := by rw [← p2_add, Int.add_left_neg, p2_zero]
theorem p2_one : (2 : Rat) ^ (1 : Int) = 2 := Rat.zpow_one 2
theorem p2_succ (a : Int) : (2 : Rat) ^ (a + 1) = 2 * 2 ^ a := by rw [p2_add, p2_one]; grind
theorem one_le_p2_nat (n : Nat) : (1 : Rat) ≤ 2 ^ (n : Int) := by
  rw [p2_nat]
  have : 1 ≤ 2 ^ n := Nat.one_le_two_pow
  exact_mod_cast (Rat.natCast_le_natCast.2 this)
theorem p2_mono {a b : Int} (h : a ≤ b) : (2 : Rat) ^ a ≤ 2 ^ b := by
  obtain ⟨n, rfl⟩ : ∃ n : Nat, b = a + n := ⟨(b - a).toNat, by omega⟩
  rw [p2_add]
  have h1 := one_le_p2_nat n
  have h2 := Rat.mul_le_mul_of_nonneg_left h1 (Rat.le_of_lt (p2_pos a))
  simpa using h2
theorem p2_lt {a b : Int} (h : a < b) : (2 : Rat) ^ a < 2 ^ b := by
  have h1 : (2 : Rat) ^ (a + 1) ≤ 2 ^ b := p2_mono (by omega)
  have h2 := p2_pos a
  rw [p2_succ] at h1
  grind
theorem p2_lt_inv {a b : Int} (h : (2 : Rat) ^ a < 2 ^ b) : a < b := by
  apply Classical.byContradiction; intro h'
  have := p2_mono (show b ≤ a by omega)
  grind
theorem p2_le_inv {a b : Int} (h : (2 : Rat) ^ a ≤ 2 ^ b) : a ≤ b := by
  apply Classical.byContradiction; intro h'
  have := p2_lt (show b < a by omega)
  grind

/-- x has its first binary digit at the place L -/
def Lead (x : Rat) (L : Int) : Prop := (2 : Rat) ^ L ≤ x ∧ x < 2 ^ (L + 1)
theorem lead_unique {x : Rat} {L M : Int} (h : Lead x L) (k : Lead x M) : L = M := by
  have h1 := p2_lt_inv (show (2 : Rat) ^ L < 2 ^ (M + 1) by have := h.1; have := k.2; grind)
  have h2 := p2_lt_inv (show (2 : Rat) ^ M < 2 ^ (L + 1) by have := k.1; have := h.2; grind)
  omega
theorem lead_mono {x y : Rat} {L M : Int} (h : Lead x L) (k : Lead y M) (hxy : x ≤ y) : L ≤ M := by
  have h1 := p2_lt_inv (show (2 : Rat) ^ L < 2 ^ (M + 1) by have := h.1; have := k.2; grind)
  omega
theorem lead_nat {m : Nat} (hm : m ≠ 0) (e : Int) : Lead ((m : Rat) * 2 ^ e) (e + m.log2) := by
  have h1 : 2 ^ m.log2 ≤ m := Nat.log2_self_le hm
  have h2 : m < 2 ^ (m.log2 + 1) := Nat.lt_log2_self
  have g1 : (2 : Rat) ^ (m.log2 : Int) ≤ (m : Rat) := by rw [p2_nat]; exact Rat.natCast_le_natCast.2 h1
  have g2 : (m : Rat) < (2 : Rat) ^ ((m.log2 : Int) + 1) := by
    have : ((m.log2 : Int) + 1) = ((m.log2 + 1 : Nat) : Int) := by omega
    rw [this, p2_nat]; exact Rat.natCast_lt_natCast.2 h2
  have hp := p2_pos e
  constructor
  · rw [p2_add, Rat.mul_comm]; exact Rat.mul_le_mul_of_nonneg_right g1 (Rat.le_of_lt hp)
  · rw [show e + (m.log2 : Int) + 1 = ((m.log2 : Int) + 1) + e by omega, p2_add]
    exact Rat.mul_lt_mul_of_pos_right g2 hp

/-- c is the whole number nearest to q, the even one of two -/
def Rne (q : Rat) (c : Nat) : Prop := 2 * (c : Rat) - 1 ≤ 2 * q ∧ 2 * q ≤ 2 * (c : Rat) + 1 ∧ (2 * q = 2 * (c : Rat) - 1 ∨ 2 * q = 2 * (c : Rat) + 1 → c % 2 = 0)

theorem rne_mono {q r : Rat} {c d : Nat} (h : Rne q c) (k : Rne r d) (hqr : q ≤ r) : c ≤ d := by
  obtain ⟨h1, h2, h3⟩ := h
  obtain ⟨k1, k2, k3⟩ := k
  apply Classical.byContradiction; intro hn
  have hd : d + 1 ≤ c := by omega
  have hd' : (d : Rat) + 1 ≤ (c : Rat) := by have := Rat.natCast_le_natCast.2 hd; simpa using this
  have e1 : (c : Rat) = (d : Rat) + 1 := by grind
  have e2 : c = d + 1 := by
    have : ((c : Nat) : Rat) = ((d + 1 : Nat) : Rat) := by simpa using e1
    exact Rat.natCast_inj.1 this
  have t1 := h3 (Or.inl (by grind))
  have t2 := k3 (Or.inr (by grind))
  omega
theorem rne_unique {q : Rat} {c d : Nat} (h : Rne q c) (k : Rne q d) : c = d := by
  have h1 := rne_mono h k (Rat.le_refl)
  have h2 := rne_mono k h (Rat.le_refl)
  omega
theorem rne_nat (n : Nat) : Rne (n : Rat) n := ⟨by grind, by grind, fun h => by rcases h with h | h <;> grind⟩

/-! ### the model's cut -/
theorem log2_add_two {n : Nat} : n < 2 ^ (n.log2 + 2) ∧ 2 * n < 2 ^ (n.log2 + 2) := by
  have := @Nat.lt_log2_self n
  have e : 2 ^ (n.log2 + 2) = 2 * 2 ^ (n.log2 + 1) := by rw [Nat.pow_succ 2 (n.log2 + 1)]; omega
  omega

theorem cut_spec (s : Bool) (n d : Nat) :
    let c := Toward.even.cut s n d
    (2 * (c * 2 ^ d) < 2 * n + 2 ^ d ∨ (2 * (c * 2 ^ d) = 2 * n + 2 ^ d ∧ c % 2 = 0)) ∧
    (2 * n < 2 * (c * 2 ^ d) + 2 ^ d ∨ (2 * n = 2 * (c * 2 ^ d) + 2 ^ d ∧ c % 2 = 0)) := by
  intro c
  by_cases hd : d ≤ n.log2 + 2
  · have hc : c = n / 2 ^ d + (decide (2 ^ d < 2 * (n % 2 ^ d)) || (2 ^ d == 2 * (n % 2 ^ d) && n / 2 ^ d % 2 == 1)).toNat := by
      show Toward.even.cut s n d = _
      unfold Toward.cut
      rw [Nat.min_eq_left hd, Nat.one_shiftLeft]
    have hm := Nat.div_add_mod n (2 ^ d)
    have hl := Nat.mod_lt n (Nat.two_pow_pos d)
    have hp := Nat.two_pow_pos d
    generalize hq : n / 2 ^ d = q at *
    generalize hr : n % 2 ^ d = r at *
    generalize hg : 2 ^ d = g at *
    have hqc : g * q = q * g := Nat.mul_comm _ _
    by_cases h1 : g < 2 * r
    · have : c = q + 1 := by rw [hc]; simp [h1]
      rw [this, Nat.add_mul]
      omega
    · by_cases h2 : g = 2 * r
      · by_cases h3 : q % 2 = 1
        · have : c = q + 1 := by rw [hc]; simp [h2, h3]
          rw [this, Nat.add_mul]
          omega
        · have : c = q := by rw [hc]; simp [h2, h3]
          rw [this]
          omega
      · have : c = q := by
          rw [hc]
          have hb : (g == 2 * r) = false := by simpa using h2
          simp [h1, hb]
        rw [this]
        omega
  · have hl := @log2_add_two n
    have hg : 2 ^ (n.log2 + 2) ≤ 2 ^ d := Nat.pow_le_pow_right (by decide) (by omega)
    have hc : c = 0 := by
      show Toward.even.cut s n d = 0
      unfold Toward.cut
      rw [Nat.min_eq_right (by omega), Nat.one_shiftLeft]
      have q0 : n / 2 ^ (n.log2 + 2) = 0 := Nat.div_eq_of_lt hl.1
      have r0 : n % 2 ^ (n.log2 + 2) = n := Nat.mod_eq_of_lt hl.1
      simp [q0, r0]
      omega
    rw [hc]
    omega

theorem rne_cut (s : Bool) (n d : Nat) : Rne ((n : Rat) * 2 ^ (-(d : Int))) (Toward.even.cut s n d) := by
  have h := cut_spec s n d
  generalize Toward.even.cut s n d = c at *
  simp only at h
  have hp := p2_pos (d : Int)
  have hn := p2_pos (-(d : Int))
  have e1 : (2 : Rat) ^ (-(d : Int)) * 2 ^ (d : Int) = 1 := p2_neg_mul d
  have e2 : (2 : Rat) ^ (d : Int) = ((2 ^ d : Nat) : Rat) := p2_nat d
  have lift_le : ∀ {a b : Nat}, a ≤ b → (a : Rat) * 2 ^ (-(d : Int)) ≤ (b : Rat) * 2 ^ (-(d : Int)) := fun h => Rat.mul_le_mul_of_nonneg_right (Rat.natCast_le_natCast.2 h) (Rat.le_of_lt hn)
  have lift_lt : ∀ {a b : Nat}, a < b → (a : Rat) * 2 ^ (-(d : Int)) < (b : Rat) * 2 ^ (-(d : Int)) := fun h => Rat.mul_lt_mul_of_pos_right (Rat.natCast_lt_natCast.2 h) hn
  have ec : ((2 * (c * 2 ^ d) : Nat) : Rat) * 2 ^ (-(d : Int)) = 2 * (c : Rat) := by
    have : ((2 * (c * 2 ^ d) : Nat) : Rat) = 2 * ((c : Rat) * 2 ^ (d : Int)) := by rw [e2]; push_cast; rfl
    rw [this]; grind
  have en : ((2 * n + 2 ^ d : Nat) : Rat) * 2 ^ (-(d : Int)) = 2 * ((n : Rat) * 2 ^ (-(d : Int))) + 1 := by
    have : ((2 * n + 2 ^ d : Nat) : Rat) = 2 * (n : Rat) + 2 ^ (d : Int) := by rw [e2]; push_cast; rfl
    rw [this]; grind
  have en2 : ((2 * n : Nat) : Rat) * 2 ^ (-(d : Int)) = 2 * ((n : Rat) * 2 ^ (-(d : Int))) := by
    have : ((2 * n : Nat) : Rat) = 2 * (n : Rat) := by push_cast; rfl
    rw [this]; grind
  have ec2 : ((2 * (c * 2 ^ d) + 2 ^ d : Nat) : Rat) * 2 ^ (-(d : Int)) = 2 * (c : Rat) + 1 := by
    have : ((2 * (c * 2 ^ d) + 2 ^ d : Nat) : Rat) = 2 * ((c : Rat) * 2 ^ (d : Int)) + 2 ^ (d : Int) := by rw [e2]; push_cast; rfl
    rw [this]; grind
  obtain ⟨h1, h2⟩ := h
  refine ⟨?_, ?_, ?_⟩
  · have : 2 * (c * 2 ^ d) ≤ 2 * n + 2 ^ d := by omega
    have := lift_le this
    rw [ec, en] at this; grind
  · have : 2 * n ≤ 2 * (c * 2 ^ d) + 2 ^ d := by omega
    have := lift_le this
    rw [ec2, en2] at this; grind
  · intro ht
    rcases ht with ht | ht
    · rcases h1 with h1 | h1
      · have := lift_lt h1
        rw [ec, en] at this; grind
      · exact h1.2
    · rcases h2 with h2 | h2
      · have := lift_lt h2
        rw [ec2, en2] at this; grind
      · exact h2.2

end Go.Proofs.Ytjhicedblobjfaa
