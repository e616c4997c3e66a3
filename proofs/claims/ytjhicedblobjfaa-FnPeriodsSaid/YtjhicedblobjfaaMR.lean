/- Rounding to a float, over rationals: what the model's 'nearest' gives. No program in sight. · Rounding to a float, over rationals, second part: words that are read; nearest. · Rounding to a float, over rationals, third part: order, exactness, error; the operations. · The operations on floats over rationals: sums, products, order, sign, and conversions. · Quotients and square roots: the model's last digit that only says 'something is left over' rounds as the exact result does. · Quotients and square roots of finite floats. -/
import Derived.Laws.FloatArith
namespace Go.Proofs.Ytjhicedblobjfaa
open Ieee

/-! ### powers of two -/
theorem two_ne : (2 : Rat) ≠ 0 := by decide
theorem p2_pos (e : Int) : (0 : Rat) < 2 ^ e := Rat.zpow_pos (by decide)
theorem p2_add (a b : Int) : (2 : Rat) ^ (a + b) = 2 ^ a * 2 ^ b := Rat.zpow_add two_ne a b
theorem p2_nat (n : Nat) : (2 : Rat) ^ (n : Int) = ((2 ^ n : Nat) : Rat) := by
  rw [Rat.zpow_natCast, Rat.natCast_pow]; rfl
theorem p2_zero : (2 : Rat) ^ (0 : Int) = 1 := Rat.zpow_zero 2
theorem p2_neg_mul (a : Int) : (2 : Rat) ^ (-a) * 2 ^ a = 1 := by rw [← p2_add, Int.add_left_neg, p2_zero]
theorem p2_one : (2 : Rat) ^ (1 : Int) = 2 := Rat.zpow_one 2
theorem p2_succ (a : Int) : (2 : Rat) ^ (a + 1) = 2 * 2 ^ a := by rw [p2_add, p2_one]; grind
theorem one_le_p2_nat (n : Nat) : (1 : Rat) ≤ 2 ^ (n : Int) := by
  rw [p2_nat]
  have : 1 ≤ 2 ^ n := Nat.one_le_two_pow
  exact_mod_cast (Rat.natCast_le_natCast.2 this)
theorem p2_mono {a b : Int} (h : a ≤ b) : (2 : Rat) ^ a ≤ 2 ^ b := by
  obtain ⟨n, rfl⟩ : ∃ n : Nat, b = a + n := ⟨(b - a).toNat, by omega⟩
  rw [p2_add]
  have h1 := one_le_p2_nat n
  have h2 := Rat.mul_le_mul_of_nonneg_left h1 (Rat.le_of_lt (p2_pos a))
  simpa using h2
theorem p2_lt {a b : Int} (h : a < b) : (2 : Rat) ^ a < 2 ^ b := by
  have h1 : (2 : Rat) ^ (a + 1) ≤ 2 ^ b := p2_mono (by omega)
  have h2 := p2_pos a
  rw [p2_succ] at h1
  grind
theorem p2_lt_inv {a b : Int} (h : (2 : Rat) ^ a < 2 ^ b) : a < b := by
  apply Classical.byContradiction; intro h'
  have := p2_mono (show b ≤ a by omega)
  grind
theorem p2_le_inv {a b : Int} (h : (2 : Rat) ^ a ≤ 2 ^ b) : a ≤ b := by
  apply Classical.byContradiction; intro h'
  have := p2_lt (show b < a by omega)
  grind

/-- x has its first binary digit at the place L -/
def Lead (x : Rat) (L : Int) : Prop := (2 : Rat) ^ L ≤ x ∧ x < 2 ^ (L + 1)
theorem lead_unique {x : Rat} {L M : Int} (h : Lead x L) (k : Lead x M) : L = M := by
  have h1 := p2_lt_inv (show (2 : Rat) ^ L < 2 ^ (M + 1) by have := h.1; have := k.2; grind)
  have h2 := p2_lt_inv (show (2 : Rat) ^ M < 2 ^ (L + 1) by have := k.1; have := h.2; grind)
  omega
theorem lead_mono {x y : Rat} {L M : Int} (h : Lead x L) (k : Lead y M) (hxy : x ≤ y) : L ≤ M := by
  have h1 := p2_lt_inv (show (2 : Rat) ^ L < 2 ^ (M + 1) by have := h.1; have := k.2; grind)
  omega
theorem lead_nat {m : Nat} (hm : m ≠ 0) (e : Int) : Lead ((m : Rat) * 2 ^ e) (e + m.log2) := by
  have h1 : 2 ^ m.log2 ≤ m := Nat.log2_self_le hm
  have h2 : m < 2 ^ (m.log2 + 1) := Nat.lt_log2_self
  have g1 : (2 : Rat) ^ (m.log2 : Int) ≤ (m : Rat) := by rw [p2_nat]; exact Rat.natCast_le_natCast.2 h1
  have g2 : (m : Rat) < (2 : Rat) ^ ((m.log2 : Int) + 1) := by
    have : ((m.log2 : Int) + 1) = ((m.log2 + 1 : Nat) : Int) := by omega
    rw [this, p2_nat]; exact Rat.natCast_lt_natCast.2 h2
  have hp := p2_pos e
  constructor
  · rw [p2_add, Rat.mul_comm]; exact Rat.mul_le_mul_of_nonneg_right g1 (Rat.le_of_lt hp)
  · rw [show e + (m.log2 : Int) + 1 = ((m.log2 : Int) + 1) + e by omega, p2_add]
    exact Rat.mul_lt_mul_of_pos_right g2 hp

/-- c is the whole number nearest to q, the even one of two -/
def Rne (q : Rat) (c : Nat) : Prop := 2 * (c : Rat) - 1 ≤ 2 * q ∧ 2 * q ≤ 2 * (c : Rat) + 1 ∧ (2 * q = 2 * (c : Rat) - 1 ∨ 2 * q = 2 * (c : Rat) + 1 → c % 2 = 0)

theorem rne_mono {q r : Rat} {c d : Nat} (h : Rne q c) (k : Rne r d) (hqr : q ≤ r) : c ≤ d := by
  obtain ⟨h1, h2, h3⟩ := h
  obtain ⟨k1, k2, k3⟩ := k
  apply Classical.byContradiction; intro hn
  have hd : d + 1 ≤ c := by omega
  have hd' : (d : Rat) + 1 ≤ (c : Rat) := by have := Rat.natCast_le_natCast.2 hd; simpa using this
  have e1 : (c : Rat) = (d : Rat) + 1 := by grind
  have e2 : c = d + 1 := by
    have : ((c : Nat) : Rat) = ((d + 1 : Nat) : Rat) := by simpa using e1
    exact Rat.natCast_inj.1 this
  have t1 := h3 (Or.inl (by grind))
  have t2 := k3 (Or.inr (by grind))
  omega
theorem rne_unique {q : Rat} {c d : Nat} (h : Rne q c) (k : Rne q d) : c = d := by
  have h1 := rne_mono h k (Rat.le_refl)
  have h2 := rne_mono k h (Rat.le_refl)
  omega
theorem rne_nat (n : Nat) : Rne (n : Rat) n := ⟨by grind, by grind, fun h => by rcases h with h | h <;> grind⟩

/-! ### the model's cut -/
theorem log2_add_two {n : Nat} : n < 2 ^ (n.log2 + 2) ∧ 2 * n < 2 ^ (n.log2 + 2) := by
  have := @Nat.lt_log2_self n
  have e : 2 ^ (n.log2 + 2) = 2 * 2 ^ (n.log2 + 1) := by rw [Nat.pow_succ 2 (n.log2 + 1)]; omega
  omega

theorem cut_spec (s : Bool) (n d : Nat) :
    let c := Toward.even.cut s n d
    (2 * (c * 2 ^ d) < 2 * n + 2 ^ d ∨ (2 * (c * 2 ^ d) = 2 * n + 2 ^ d ∧ c % 2 = 0)) ∧
    (2 * n < 2 * (c * 2 ^ d) + 2 ^ d ∨ (2 * n = 2 * (c * 2 ^ d) + 2 ^ d ∧ c % 2 = 0)) := by
  intro c
  by_cases hd : d ≤ n.log2 + 2
  · have hc : c = n / 2 ^ d + (decide (2 ^ d < 2 * (n % 2 ^ d)) || (2 ^ d == 2 * (n % 2 ^ d) && n / 2 ^ d % 2 == 1)).toNat := by
      show Toward.even.cut s n d = _
      unfold Toward.cut
      rw [Nat.min_eq_left hd, Nat.one_shiftLeft]
    have hm := Nat.div_add_mod n (2 ^ d)
    have hl := Nat.mod_lt n (Nat.two_pow_pos d)
    have hp := Nat.two_pow_pos d
    generalize hq : n / 2 ^ d = q at *
    generalize hr : n % 2 ^ d = r at *
    generalize hg : 2 ^ d = g at *
    have hqc : g * q = q * g := Nat.mul_comm _ _
    by_cases h1 : g < 2 * r
    · have : c = q + 1 := by rw [hc]; simp [h1]
      rw [this, Nat.add_mul]
      omega
    · by_cases h2 : g = 2 * r
      · by_cases h3 : q % 2 = 1
        · have : c = q + 1 := by rw [hc]; simp [h2, h3]
          rw [this, Nat.add_mul]
          omega
        · have : c = q := by rw [hc]; simp [h2, h3]
          rw [this]
          omega
      · have : c = q := by
          rw [hc]
          have hb : (g == 2 * r) = false := by simpa using h2
          simp [h1, hb]
        rw [this]
        omega
  · have hl := @log2_add_two n
    have hg : 2 ^ (n.log2 + 2) ≤ 2 ^ d := Nat.pow_le_pow_right (by decide) (by omega)
    have hc : c = 0 := by
      show Toward.even.cut s n d = 0
      unfold Toward.cut
      rw [Nat.min_eq_right (by omega), Nat.one_shiftLeft]
      have q0 : n / 2 ^ (n.log2 + 2) = 0 := Nat.div_eq_of_lt hl.1
      have r0 : n % 2 ^ (n.log2 + 2) = n := Nat.mod_eq_of_lt hl.1
      simp [q0, r0]
      omega
    rw [hc]
    omega

theorem rne_cut (s : Bool) (n d : Nat) : Rne ((n : Rat) * 2 ^ (-(d : Int))) (Toward.even.cut s n d) := by
  have h := cut_spec s n d
  generalize Toward.even.cut s n d = c at *
  simp only at h
  have hp := p2_pos (d : Int)
  have hn := p2_pos (-(d : Int))
  have e1 : (2 : Rat) ^ (-(d : Int)) * 2 ^ (d : Int) = 1 := p2_neg_mul d
  have e2 : (2 : Rat) ^ (d : Int) = ((2 ^ d : Nat) : Rat) := p2_nat d
  have lift_le : ∀ {a b : Nat}, a ≤ b → (a : Rat) * 2 ^ (-(d : Int)) ≤ (b : Rat) * 2 ^ (-(d : Int)) := fun h => Rat.mul_le_mul_of_nonneg_right (Rat.natCast_le_natCast.2 h) (Rat.le_of_lt hn)
  have lift_lt : ∀ {a b : Nat}, a < b → (a : Rat) * 2 ^ (-(d : Int)) < (b : Rat) * 2 ^ (-(d : Int)) := fun h => Rat.mul_lt_mul_of_pos_right (Rat.natCast_lt_natCast.2 h) hn
  have ec : ((2 * (c * 2 ^ d) : Nat) : Rat) * 2 ^ (-(d : Int)) = 2 * (c : Rat) := by
    have : ((2 * (c * 2 ^ d) : Nat) : Rat) = 2 * ((c : Rat) * 2 ^ (d : Int)) := by rw [e2]; push_cast; rfl
    rw [this]; grind
  have en : ((2 * n + 2 ^ d : Nat) : Rat) * 2 ^ (-(d : Int)) = 2 * ((n : Rat) * 2 ^ (-(d : Int))) + 1 := by
    have : ((2 * n + 2 ^ d : Nat) : Rat) = 2 * (n : Rat) + 2 ^ (d : Int) := by rw [e2]; push_cast; rfl
    rw [this]; grind
  have en2 : ((2 * n : Nat) : Rat) * 2 ^ (-(d : Int)) = 2 * ((n : Rat) * 2 ^ (-(d : Int))) := by
    have : ((2 * n : Nat) : Rat) = 2 * (n : Rat) := by push_cast; rfl
    rw [this]; grind
  have ec2 : ((2 * (c * 2 ^ d) + 2 ^ d : Nat) : Rat) * 2 ^ (-(d : Int)) = 2 * (c : Rat) + 1 := by
    have : ((2 * (c * 2 ^ d) + 2 ^ d : Nat) : Rat) = 2 * ((c : Rat) * 2 ^ (d : Int)) + 2 ^ (d : Int) := by rw [e2]; push_cast; rfl
    rw [this]; grind
  obtain ⟨h1, h2⟩ := h
  refine ⟨?_, ?_, ?_⟩
  · have : 2 * (c * 2 ^ d) ≤ 2 * n + 2 ^ d := by omega
    have := lift_le this
    rw [ec, en] at this; grind
  · have : 2 * n ≤ 2 * (c * 2 ^ d) + 2 ^ d := by omega
    have := lift_le this
    rw [ec2, en2] at this; grind
  · intro ht
    rcases ht with ht | ht
    · rcases h1 with h1 | h1
      · have := lift_lt h1
        rw [ec, en] at this; grind
      · exact h1.2
    · rcases h2 with h2 | h2
      · have := lift_lt h2
        rw [ec2, en2] at this; grind
      · exact h2.2

end Go.Proofs.Ytjhicedblobjfaa

namespace Go.Proofs.Ytjhicedblobjfaa
open Ieee

/-- the number of a sign and a magnitude -/
def sg (s : Bool) (x : Rat) : Rat := if s then -x else x
/-- the bits b are a finite number of the value v -/
def Num (f : Format) (b : Nat) (v : Rat) : Prop := ∃ s m e, f.read b = .number s m e ∧ v = sg s ((m : Rat) * 2 ^ e)

theorem num_unique {f : Format} {b : Nat} {v u : Rat} (h : Num f b v) (k : Num f b u) : v = u := by
  obtain ⟨s, m, e, h1, h2⟩ := h
  obtain ⟨s', m', e', k1, k2⟩ := k
  rw [h1] at k1
  injection k1 with a b c
  subst a b c
  rw [h2, k2]

/-- y is the float nearest to x > 0 -/
def NearPos (f : Format) (x y : Rat) : Prop :=
  ∃ (L last : Int) (c : Nat), Lead x L ∧ last = max (L - f.fractionBits) f.leastPlace ∧ Rne (x * 2 ^ (-last)) c ∧ y = (c : Rat) * 2 ^ last
def Near (f : Format) (x y : Rat) : Prop := (x = 0 ∧ y = 0) ∨ (0 < x ∧ NearPos f x y) ∨ (x < 0 ∧ NearPos f (-x) (-y))

/-- of smaller numbers nothing overflows -/
def top (f : Format) : Int := 2 ^ (f.exponentBits - 1) - 1

theorem infRung_lt' (f : Format) : f.infRung < f.signWeight := f.infRung_lt

theorem read_word (f : Format) (s : Bool) (k c : Nat) (hk : k = 0 ∨ f.binade ≤ c) (hc : c ≤ 2 * f.binade) (hr : k * f.binade + c < f.infRung) :
    ∃ m e, f.read (f.word s (k * f.binade + c)) = .number s m e ∧ (m : Rat) * 2 ^ e = (c : Rat) * 2 ^ (f.leastPlace + k) := by
  have hB : 0 < f.binade := Nat.two_pow_pos _
  have hw := f.infRung_lt
  generalize hR : k * f.binade + c = R at *
  have hneg : (f.word s R / f.signWeight % 2 == 1) = s := by
    unfold Format.word
    cases s
    · simp only [Bool.false_eq_true, if_false]
      rw [Nat.div_eq_of_lt (by omega)]; rfl
    · simp only [if_true]
      rw [Nat.add_div_left _ (by omega), Nat.div_eq_of_lt (by omega)]; rfl
  have hrun : f.word s R % f.signWeight = R := by
    unfold Format.word
    cases s
    · simp only [Bool.false_eq_true, if_false]
      exact Nat.mod_eq_of_lt (by omega)
    · simp only [if_true]
      rw [Nat.add_mod_left]; exact Nat.mod_eq_of_lt (by omega)
  unfold Format.read
  simp only [hneg, hrun]
  by_cases h1 : R < f.binade
  · rw [if_pos h1]
    refine ⟨R, f.leastPlace, rfl, ?_⟩
    have k0 : k = 0 := by
      rcases hk with h | h
      · exact h
      · have : c ≤ R := by rw [← hR]; exact Nat.le_add_left _ _
        omega
    subst k0
    have : R = c := by rw [← hR]; simp
    rw [this]; simp
  · rw [if_neg h1, if_pos hr]
    refine ⟨_, _, rfl, ?_⟩
    by_cases h2 : c < f.binade
    · exfalso
      have k0 : k = 0 := by rcases hk with h | h <;> omega
      subst k0
      simp at hR; omega
    · by_cases h3 : c = 2 * f.binade
      · have e : R = f.binade * (k + 2) := by rw [← hR, h3, Nat.mul_add, Nat.mul_comm k]; omega
        have e1 : R % f.binade = 0 := by rw [e]; exact Nat.mul_mod_right _ _
        have e2 : R / f.binade = k + 2 := by rw [e]; exact Nat.mul_div_cancel_left _ hB
        rw [e1, e2, h3]
        have e3 : f.leastPlace + ((k + 2 - 1 : Nat) : Int) = (f.leastPlace + (k : Int)) + 1 := by omega
        rw [e3, p2_succ]
        have : ((f.binade + 0 : Nat) : Rat) = (f.binade : Rat) := by simp
        rw [this]
        have : ((2 * f.binade : Nat) : Rat) = 2 * (f.binade : Rat) := by push_cast; rfl
        rw [this]; grind
      · have hc2 : c - f.binade < f.binade := by omega
        have e : R = (c - f.binade) + f.binade * (k + 1) := by rw [← hR, Nat.mul_add, Nat.mul_comm k]; omega
        have e1 : R % f.binade = c - f.binade := by rw [e, Nat.add_mul_mod_self_left]; exact Nat.mod_eq_of_lt hc2
        have e2 : R / f.binade = k + 1 := by rw [e, Nat.add_mul_div_left _ _ hB, Nat.div_eq_of_lt hc2]; omega
        rw [e1, e2]
        have e3 : f.binade + (c - f.binade) = c := by omega
        rw [e3]; rfl

theorem binade_rat (f : Format) : ((f.binade : Nat) : Rat) = 2 ^ (f.fractionBits : Int) := by rw [p2_nat]; rfl

theorem nearest_pos (f : Format) (hf : 2 ≤ f.exponentBits) (s : Bool) (m : Nat) (e : Int) (hm : m ≠ 0) (hx : (m : Rat) * 2 ^ e < 2 ^ top f) :
    ∃ m' e', f.read (f.nearest s m e) = .number s m' e' ∧ NearPos f ((m : Rat) * 2 ^ e) ((m' : Rat) * 2 ^ e') := by
  have hlead := lead_nat hm e
  unfold Format.nearest
  rw [if_neg hm]
  simp only
  generalize hL : e + (m.log2 : Int) = L at *
  generalize hlast : max (L - (f.fractionBits : Int)) f.leastPlace = last
  have hl1 : L - f.fractionBits ≤ last := by omega
  have hl2 : f.leastPlace ≤ last := by omega
  have hrne : Rne ((m : Rat) * 2 ^ e * 2 ^ (-last)) (Toward.even.cut s (m <<< (e - last).toNat) (last - e).toNat) := by
    have h := rne_cut s (m <<< (e - last).toNat) (last - e).toNat
    have : ((m <<< (e - last).toNat : Nat) : Rat) * 2 ^ (-((last - e).toNat : Int)) = (m : Rat) * 2 ^ e * 2 ^ (-last) := by
      have e1 : ((m <<< (e - last).toNat : Nat) : Rat) = (m : Rat) * 2 ^ ((e - last).toNat : Int) := by
        rw [Nat.shiftLeft_eq, p2_nat]; push_cast; rfl
      rw [e1, Rat.mul_assoc, ← p2_add, Rat.mul_assoc, ← p2_add]
      congr 2; omega
    rw [this] at h; exact h
  generalize hkept : Toward.even.cut s (m <<< (e - last).toNat) (last - e).toNat = kept at *
  have hB := binade_rat f
  have hn := p2_pos (-last)
  have hkc : (last - f.leastPlace).toNat = 0 ∨ f.binade ≤ kept := by
    by_cases h : last = f.leastPlace
    · left; omega
    · right
      have hll : last = L - f.fractionBits := by omega
      refine rne_mono (rne_nat f.binade) hrne ?_
      rw [hB]
      have : (2 : Rat) ^ (f.fractionBits : Int) = 2 ^ L * 2 ^ (-last) := by rw [← p2_add]; congr 1; omega
      rw [this]
      exact Rat.mul_le_mul_of_nonneg_right hlead.1 (Rat.le_of_lt hn)
  have hc : kept ≤ 2 * f.binade := by
    refine rne_mono hrne (rne_nat (2 * f.binade)) ?_
    have e1 : ((2 * f.binade : Nat) : Rat) = 2 ^ ((f.fractionBits : Int) + 1) := by rw [p2_succ, ← hB]; push_cast; rfl
    rw [e1]
    have h1 : (m : Rat) * 2 ^ e * 2 ^ (-last) ≤ 2 ^ (L + 1) * 2 ^ (-last) := Rat.mul_le_mul_of_nonneg_right (Rat.le_of_lt hlead.2) (Rat.le_of_lt hn)
    rw [← p2_add] at h1
    have h2 : (2 : Rat) ^ (L + 1 + -last) ≤ 2 ^ ((f.fractionBits : Int) + 1) := p2_mono (by omega)
    exact Rat.le_trans h1 h2
  have hLt : L < top f := p2_lt_inv (by have := hlead.1; grind)
  have hE : 2 ^ f.exponentBits = 2 * 2 ^ (f.exponentBits - 1) := by
    obtain ⟨n, hn⟩ : ∃ n, f.exponentBits = n + 1 := ⟨f.exponentBits - 1, by omega⟩
    rw [hn, Nat.pow_succ]; simp; omega
  have hE2 : 2 ≤ 2 ^ (f.exponentBits - 1) := by
    have : 2 ^ 1 ≤ 2 ^ (f.exponentBits - 1) := Nat.pow_le_pow_right (by decide) (by omega)
    simpa using this
  have hcast : (2 : Int) ^ (f.exponentBits - 1) = ((2 ^ (f.exponentBits - 1) : Nat) : Int) := by push_cast; rfl
  have hlp : f.leastPlace = 2 - ((2 ^ (f.exponentBits - 1) : Nat) : Int) - f.fractionBits := by unfold Format.leastPlace; rw [hcast]
  have htop : top f = ((2 ^ (f.exponentBits - 1) : Nat) : Int) - 1 := by unfold top; rw [hcast]
  have hfin : (last - f.leastPlace).toNat * f.binade + kept < f.infRung := by
    have hk2 : (last - f.leastPlace).toNat + 2 < 2 ^ f.exponentBits - 1 := by
      generalize 2 ^ (f.exponentBits - 1) = E at *
      rw [hE]; omega
    have hB0 : 0 < f.binade := Nat.two_pow_pos _
    have : ((last - f.leastPlace).toNat + 2) * f.binade < f.infRung := by
      unfold Format.infRung
      exact Nat.mul_lt_mul_of_pos_right hk2 hB0
    rw [Nat.add_mul] at this
    omega
  rw [Nat.min_eq_left (Nat.le_of_lt hfin)]
  obtain ⟨m', e', hr, hv⟩ := read_word f s _ kept hkc hc hfin
  refine ⟨m', e', hr, L, last, kept, hlead, hlast.symm, hrne, ?_⟩
  rw [hv]; congr 2; omega

theorem nearest_near (f : Format) (hf : 2 ≤ f.exponentBits) (s : Bool) (m : Nat) (e : Int) (hx : (m : Rat) * 2 ^ e < 2 ^ top f) :
    ∃ y, Num f (f.nearest s m e) y ∧ Near f (sg s ((m : Rat) * 2 ^ e)) y := by
  by_cases hm : m = 0
  · subst hm
    have hr : f.read (f.nearest s 0 e) = .number s 0 f.leastPlace := by
      have h : f.nearest s 0 e = f.word s (0 * f.binade + 0) := by simp [Format.nearest]
      have hB0 : 0 < f.binade := Nat.two_pow_pos _
      have hw : 0 < f.signWeight := Nat.two_pow_pos _
      rw [h]
      unfold Format.read
      have hneg : (f.word s (0 * f.binade + 0) / f.signWeight % 2 == 1) = s := by
        unfold Format.word
        cases s <;> simp [Nat.div_self hw]
      have hrun : f.word s (0 * f.binade + 0) % f.signWeight = 0 := by
        unfold Format.word
        cases s <;> simp
      simp only [hneg, hrun]
      rw [if_pos hB0]
    refine ⟨0, ⟨s, 0, _, hr, ?_⟩, Or.inl ⟨?_, rfl⟩⟩ <;> cases s <;> simp [sg]
  · obtain ⟨m', e', hr, hn⟩ := nearest_pos f hf s m e hm hx
    have hpos : (0 : Rat) < (m : Rat) * 2 ^ e := Rat.mul_pos (Rat.natCast_pos.2 (by omega)) (p2_pos e)
    refine ⟨_, ⟨s, m', e', hr, rfl⟩, ?_⟩
    cases s
    · exact Or.inr (Or.inl ⟨hpos, hn⟩)
    · refine Or.inr (Or.inr ⟨?_, ?_⟩)
      · simp only [sg, if_true]; grind
      · simp only [sg, if_true, Rat.neg_neg]; exact hn
end Go.Proofs.Ytjhicedblobjfaa

namespace Go.Proofs.Ytjhicedblobjfaa
open Ieee

theorem sg_neg (s : Bool) (x : Rat) : sg (!s) x = -sg s x := by cases s <;> simp [sg]

/-- x is a multiple of a float's last digit, with few digits -/
def Rep (f : Format) (x : Rat) : Prop := ∃ (s : Bool) (c : Nat) (l : Int), x = sg s ((c : Rat) * 2 ^ l) ∧ c ≤ 2 ^ (f.fractionBits + 1) ∧ f.leastPlace ≤ l

theorem num_rep {f : Format} {b : Nat} {v : Rat} (h : Num f b v) : Rep f v := by
  obtain ⟨s, m, e, h1, h2⟩ := h
  refine ⟨s, m, e, h2, ?_⟩
  have hB : 0 < f.binade := Nat.two_pow_pos _
  have h2B : 2 ^ (f.fractionBits + 1) = 2 * f.binade := by rw [Nat.pow_succ]; unfold Format.binade; omega
  unfold Format.read at h1
  simp only at h1
  rw [h2B]
  generalize b % f.signWeight = R at h1
  split at h1
  · injection h1 with a b c; subst b c; constructor <;> omega
  · split at h1
    · injection h1 with a b c
      have := Nat.mod_lt R hB
      omega
    · split at h1 <;> cases h1

theorem nearPos_bounds {f : Format} {x : Rat} {L last : Int} {c : Nat} (hl : Lead x L) (hlast : last = max (L - f.fractionBits) f.leastPlace) (hr : Rne (x * 2 ^ (-last)) c) :
    c ≤ 2 ^ (f.fractionBits + 1) ∧ (last = f.leastPlace ∨ 2 ^ f.fractionBits ≤ c) := by
  have hn := p2_pos (-last)
  constructor
  · refine rne_mono hr (rne_nat _) ?_
    rw [← p2_nat]
    have h1 : x * 2 ^ (-last) ≤ 2 ^ (L + 1) * 2 ^ (-last) := Rat.mul_le_mul_of_nonneg_right (Rat.le_of_lt hl.2) (Rat.le_of_lt hn)
    rw [← p2_add] at h1
    exact Rat.le_trans h1 (p2_mono (by omega))
  · by_cases h : last = f.leastPlace
    · left; exact h
    · right
      refine rne_mono (rne_nat _) hr ?_
      rw [← p2_nat]
      have : (2 : Rat) ^ (f.fractionBits : Int) = 2 ^ L * 2 ^ (-last) := by rw [← p2_add]; congr 1; omega
      rw [this]
      exact Rat.mul_le_mul_of_nonneg_right hl.1 (Rat.le_of_lt hn)

theorem nearPos_nonneg {f : Format} {x y : Rat} (h : NearPos f x y) : 0 ≤ y := by
  obtain ⟨L, last, c, _, _, _, rfl⟩ := h
  exact Rat.mul_nonneg Rat.natCast_nonneg (Rat.le_of_lt (p2_pos _))

theorem nearPos_mono {f : Format} {x y x' y' : Rat} (h : NearPos f x y) (k : NearPos f x' y') (hx : x ≤ x') : y ≤ y' := by
  obtain ⟨L, last, c, hl, hlast, hr, rfl⟩ := h
  obtain ⟨L', last', c', kl, klast, kr, rfl⟩ := k
  have hL := lead_mono hl kl hx
  have b1 := (nearPos_bounds hl hlast hr).1
  have b2 := (nearPos_bounds kl klast kr).2
  have hp := p2_pos last
  have hp' := p2_pos last'
  by_cases he : last = last'
  · subst he
    have hn := p2_pos (-last)
    have hcc := rne_mono hr kr (Rat.mul_le_mul_of_nonneg_right hx (Rat.le_of_lt hn))
    exact Rat.mul_le_mul_of_nonneg_right (Rat.natCast_le_natCast.2 hcc) (Rat.le_of_lt hp)
  · have hlt : last < last' := by omega
    have hne : last' ≠ f.leastPlace := by omega
    have b3 : 2 ^ f.fractionBits ≤ c' := by rcases b2 with b | b; exact absurd b hne; exact b
    have g1 : (c : Rat) * 2 ^ last ≤ 2 ^ ((f.fractionBits : Int) + 1) * 2 ^ last := by
      refine Rat.mul_le_mul_of_nonneg_right ?_ (Rat.le_of_lt hp)
      have : (f.fractionBits : Int) + 1 = ((f.fractionBits + 1 : Nat) : Int) := by omega
      rw [this, p2_nat]; exact Rat.natCast_le_natCast.2 b1
    have g2 : (2 : Rat) ^ (f.fractionBits : Int) * 2 ^ last' ≤ (c' : Rat) * 2 ^ last' := by
      refine Rat.mul_le_mul_of_nonneg_right ?_ (Rat.le_of_lt hp')
      rw [p2_nat]; exact Rat.natCast_le_natCast.2 b3
    rw [← p2_add] at g1 g2
    have g3 : (2 : Rat) ^ ((f.fractionBits : Int) + 1 + last) ≤ 2 ^ ((f.fractionBits : Int) + last') := p2_mono (by omega)
    exact Rat.le_trans g1 (Rat.le_trans g3 g2)

theorem near_mono {f : Format} {x y x' y' : Rat} (h : Near f x y) (k : Near f x' y') (hx : x ≤ x') : y ≤ y' := by
  rcases h with ⟨h1, h2⟩ | ⟨h1, h2⟩ | ⟨h1, h2⟩ <;> rcases k with ⟨k1, k2⟩ | ⟨k1, k2⟩ | ⟨k1, k2⟩
  · grind
  · have := nearPos_nonneg k2; grind
  · grind
  · grind
  · exact nearPos_mono h2 k2 hx
  · grind
  · have := nearPos_nonneg h2; grind
  · have := nearPos_nonneg h2; have := nearPos_nonneg k2; grind
  · have := nearPos_mono k2 h2 (by grind); grind

theorem near_unique {f : Format} {x y y' : Rat} (h : Near f x y) (k : Near f x y') : y = y' :=
  Rat.le_antisymm (near_mono h k Rat.le_refl) (near_mono k h Rat.le_refl)

theorem near_neg {f : Format} {x y : Rat} (h : Near f x y) : Near f (-x) (-y) := by
  rcases h with ⟨h1, h2⟩ | ⟨h1, h2⟩ | ⟨h1, h2⟩
  · left; constructor <;> grind
  · right; right; refine ⟨by grind, ?_⟩; rw [Rat.neg_neg, Rat.neg_neg]; exact h2
  · right; left; exact ⟨by grind, h2⟩

theorem nearPos_rep {f : Format} {c : Nat} {l : Int} (hc0 : c ≠ 0) (hc : c ≤ 2 ^ (f.fractionBits + 1)) (hl : f.leastPlace ≤ l) : NearPos f ((c : Rat) * 2 ^ l) ((c : Rat) * 2 ^ l) := by
  have hlead := lead_nat hc0 l
  by_cases h : c = 2 ^ (f.fractionBits + 1)
  · have e : (c : Rat) * 2 ^ l = ((2 ^ f.fractionBits : Nat) : Rat) * 2 ^ (l + 1) := by
      rw [h, p2_succ, Nat.pow_succ]; push_cast; grind
    have hlog : c.log2 = f.fractionBits + 1 := by rw [h]; exact Nat.log2_two_pow
    refine ⟨_, l + 1, 2 ^ f.fractionBits, hlead, by omega, ?_, e⟩
    rw [e, Rat.mul_assoc, ← p2_add, show l + 1 + -(l + 1) = 0 by omega, p2_zero, Rat.mul_one]
    exact rne_nat _
  · have hlog : c.log2 ≤ f.fractionBits := by
      have : c < 2 ^ (f.fractionBits + 1) := by omega
      have := (Nat.log2_lt hc0).2 this
      omega
    generalize hlast : max (l + (c.log2 : Int) - f.fractionBits) f.leastPlace = last
    have hll : last ≤ l := by omega
    refine ⟨_, last, c * 2 ^ (l - last).toNat, hlead, hlast.symm, ?_, ?_⟩
    · have : (c : Rat) * 2 ^ l * 2 ^ (-last) = ((c * 2 ^ (l - last).toNat : Nat) : Rat) := by
        push_cast
        rw [Rat.mul_assoc, ← p2_add]
        have e1 : (2 : Rat) ^ (l + -last) = 2 ^ (((l - last).toNat : Nat) : Int) := by congr 1; omega
        rw [e1, p2_nat]; push_cast; rfl
      rw [this]; exact rne_nat _
    · push_cast
      have e1 : (2 : Rat) ^ l = 2 ^ (((l - last).toNat : Nat) : Int) * 2 ^ last := by rw [← p2_add]; congr 1; omega
      rw [e1, p2_nat]; push_cast; grind

theorem near_rep {f : Format} {x : Rat} (h : Rep f x) : Near f x x := by
  obtain ⟨s, c, l, rfl, hc, hl⟩ := h
  by_cases hc0 : c = 0
  · subst hc0; left; cases s <;> simp [sg]
  · have hp : (0 : Rat) < (c : Rat) * 2 ^ l := Rat.mul_pos (Rat.natCast_pos.2 (by omega)) (p2_pos l)
    have := nearPos_rep hc0 hc hl
    cases s
    · exact Or.inr (Or.inl ⟨hp, this⟩)
    · exact near_neg (Or.inr (Or.inl ⟨hp, this⟩))

theorem near_exact {f : Format} {x y : Rat} (h : Near f x y) (hr : Rep f x) : y = x := near_unique h (near_rep hr)
theorem near_le {f : Format} {x y c : Rat} (h : Near f x y) (hr : Rep f c) (hx : x ≤ c) : y ≤ c := near_mono h (near_rep hr) hx
theorem near_ge {f : Format} {x y c : Rat} (h : Near f x y) (hr : Rep f c) (hx : c ≤ x) : c ≤ y := near_mono (near_rep hr) h hx

/-- the error of rounding: relative, and absolute near zero -/
def ue (f : Format) : Rat := 2 ^ (-((f.fractionBits : Int) + 1))
def et (f : Format) : Rat := 2 ^ (f.leastPlace - 1)
theorem ue_pos (f : Format) : 0 < ue f := p2_pos _
theorem et_pos (f : Format) : 0 < et f := p2_pos _

theorem nearPos_err {f : Format} {x y : Rat} (hx : 0 < x) (h : NearPos f x y) : y ≤ x + (x * ue f + et f) ∧ x ≤ y + (x * ue f + et f) := by
  obtain ⟨L, last, c, hl, hlast, ⟨r1, r2, _⟩, rfl⟩ := h
  have hp := p2_pos last
  have e1 : x * 2 ^ (-last) * 2 ^ last = x := by rw [Rat.mul_assoc, p2_neg_mul, Rat.mul_one]
  have m1 := Rat.mul_le_mul_of_nonneg_right r1 (Rat.le_of_lt hp)
  have m2 := Rat.mul_le_mul_of_nonneg_right r2 (Rat.le_of_lt hp)
  have hlow : (2 : Rat) ^ last ≤ 2 * (x * ue f + et f) := by
    have ex : 0 ≤ x * ue f := Rat.mul_nonneg (Rat.le_of_lt hx) (Rat.le_of_lt (ue_pos f))
    have ee := et_pos f
    by_cases h : last = f.leastPlace
    · have : (2 : Rat) ^ last = 2 * et f := by unfold et; rw [← p2_succ, h]; congr 1; omega
      grind
    · have hll : last = L - f.fractionBits := by omega
      have : (2 : Rat) ^ last = 2 * (2 ^ L * ue f) := by unfold ue; rw [← p2_add, ← p2_succ]; congr 1; omega
      have := Rat.mul_le_mul_of_nonneg_right hl.1 (Rat.le_of_lt (ue_pos f))
      grind
  constructor <;> grind

theorem near_err {f : Format} {x y B : Rat} (h : Near f x y) (h1 : x ≤ B) (h2 : -B ≤ x) : y ≤ x + (B * ue f + et f) ∧ x ≤ y + (B * ue f + et f) := by
  have hu := ue_pos f
  have he := et_pos f
  rcases h with ⟨rfl, rfl⟩ | ⟨k1, k2⟩ | ⟨k1, k2⟩
  · have : 0 ≤ B * ue f := Rat.mul_nonneg (by grind) (Rat.le_of_lt hu)
    constructor <;> grind
  · have := nearPos_err k1 k2
    have := Rat.mul_le_mul_of_nonneg_right h1 (Rat.le_of_lt hu)
    constructor <;> grind
  · have := nearPos_err (show 0 < -x by grind) k2
    have := Rat.mul_le_mul_of_nonneg_right (show -x ≤ B by grind) (Rat.le_of_lt hu)
    constructor <;> grind
end Go.Proofs.Ytjhicedblobjfaa

namespace Go.Proofs.Ytjhicedblobjfaa
open Ieee

def fadd (k : FloatKind) (x y : Nat) : Option Nat := k.format.add x y
def fsub (k : FloatKind) (x y : Nat) : Option Nat := k.format.sub x y
def fmul (k : FloatKind) (x y : Nat) : Option Nat := k.format.mul x y
def fdiv (k : FloatKind) (x y : Nat) : Option Nat := k.format.div x y
def fsqrt (x : Nat) : Option Nat := FloatKind.f64.format.sqrt x
def widen (x : Nat) : Option Nat := floatToFloatBits .f32 x .f64
def narrow (x : Nat) : Option Nat := floatToFloatBits .f64 x .f32
/-- the bits of the absolute value -/
def absBits (b : Nat) : Nat := b % 2 ^ 63

/-- b are bits of a finite number v of the kind k -/
abbrev NumK (k : FloatKind) (b : Nat) (v : Rat) : Prop := Num k.format b v
theorem fmt_ok (k : FloatKind) : 2 ≤ k.format.exponentBits := by cases k <;> decide

theorem sg_mul (s t : Bool) (x y : Rat) : sg (s ^^ t) (x * y) = sg s x * sg t y := by
  cases s <;> cases t <;> simp [sg] <;> grind
theorem sg_lt {s : Bool} {x B : Rat} (h1 : sg s x < B) (h2 : -B < sg s x) : x < B := by
  cases s <;> simp [sg] at h1 h2 <;> grind

theorem signed_rat (s : Bool) (m u : Nat) : ((signed s m u : Int) : Rat) = sg s ((m : Rat) * 2 ^ (u : Int)) := by
  have e : ((m <<< u : Nat) : Rat) = (m : Rat) * 2 ^ (u : Int) := by rw [Nat.shiftLeft_eq, p2_nat]; push_cast; rfl
  cases s
  · simp only [signed, sg, Bool.false_eq_true, if_false]; rw [← e]; rfl
  · simp only [signed, sg, if_true]; rw [← e, Rat.intCast_neg]; rfl
theorem signed_val (s : Bool) (m : Nat) (i base : Int) (h : base ≤ i) : ((signed s m (i - base).toNat : Int) : Rat) * 2 ^ base = sg s ((m : Rat) * 2 ^ i) := by
  have e : (2 : Rat) ^ i = 2 ^ (((i - base).toNat : Nat) : Int) * 2 ^ base := by rw [← p2_add]; congr 1; omega
  rw [signed_rat, e]
  cases s <;> simp [sg] <;> grind

theorem natAbs_sg (t : Int) (σ : Bool) (p : Rat) (h : t ≠ 0 → σ = decide (t < 0)) : sg σ ((t.natAbs : Rat) * p) = (t : Rat) * p := by
  by_cases h0 : t = 0
  · subst h0; cases σ <;> simp [sg]
  · rw [h h0]
    by_cases hn : t < 0
    · simp only [hn, decide_true, sg, if_true]
      have : (t.natAbs : Rat) = -(t : Rat) := by
        have e : ((t.natAbs : Int) : Rat) = ((-t : Int) : Rat) := by congr 1; omega
        rw [Rat.intCast_neg] at e; exact e
      rw [this]; grind
    · have : (t.natAbs : Rat) = (t : Rat) := by
        have e : ((t.natAbs : Int) : Rat) = ((t : Int) : Rat) := by congr 1; omega
        exact e
      simp [hn, sg, this]

theorem sum_num {s t : Bool} {m n : Nat} {i j : Int} : ∃ σ M base, Datum.sum (.number s m i) (.number t n j) = some (.number σ M base) ∧ sg σ ((M : Rat) * 2 ^ base) = sg s ((m : Rat) * 2 ^ i) + sg t ((n : Rat) * 2 ^ j) := by
  refine ⟨_, _, _, rfl, ?_⟩
  rw [natAbs_sg]
  · rw [Rat.intCast_add, ← signed_val s m i (min i j) (by omega), ← signed_val t n j (min i j) (by omega)]; grind
  · intro h; rw [if_neg h]

theorem write_num {f : Format} (hf : 2 ≤ f.exponentBits) {s : Bool} {m : Nat} {e : Int} {x : Rat} (hv : sg s ((m : Rat) * 2 ^ e) = x) (h1 : x < 2 ^ top f) (h2 : -2 ^ top f < x) :
    ∃ y, Num f (f.write (.number s m e)) y ∧ Near f x y := by
  subst hv
  exact nearest_near f hf s m e (sg_lt h1 h2)

theorem add_num {k : FloatKind} {a b : Nat} {x y : Rat} (ha : NumK k a x) (hb : NumK k b y) (h1 : x + y < 2 ^ top k.format) (h2 : -2 ^ top k.format < x + y) :
    ∃ r z, fadd k a b = some r ∧ NumK k r z ∧ Near k.format (x + y) z := by
  obtain ⟨s, m, i, ra, rfl⟩ := ha
  obtain ⟨t, n, j, rb, rfl⟩ := hb
  obtain ⟨σ, M, base, hs, hv⟩ := @sum_num s t m n i j
  obtain ⟨z, hz, hn⟩ := write_num (fmt_ok k) hv h1 h2
  exact ⟨_, z, by simp [fadd, Format.add, ra, rb, hs], hz, hn⟩

theorem sub_num {k : FloatKind} {a b : Nat} {x y : Rat} (ha : NumK k a x) (hb : NumK k b y) (h1 : x - y < 2 ^ top k.format) (h2 : -2 ^ top k.format < x - y) :
    ∃ r z, fsub k a b = some r ∧ NumK k r z ∧ Near k.format (x - y) z := by
  obtain ⟨s, m, i, ra, rfl⟩ := ha
  obtain ⟨t, n, j, rb, rfl⟩ := hb
  obtain ⟨σ, M, base, hs, hv⟩ := @sum_num s (!t) m n i j
  rw [sg_neg, ← Rat.sub_eq_add_neg] at hv
  obtain ⟨z, hz, hn⟩ := write_num (fmt_ok k) hv h1 h2
  exact ⟨_, z, by simp [fsub, Format.sub, ra, rb, Datum.opposite, hs], hz, hn⟩

theorem mul_num {k : FloatKind} {a b : Nat} {x y : Rat} (ha : NumK k a x) (hb : NumK k b y) (h1 : x * y < 2 ^ top k.format) (h2 : -2 ^ top k.format < x * y) :
    ∃ r z, fmul k a b = some r ∧ NumK k r z ∧ Near k.format (x * y) z := by
  obtain ⟨s, m, i, ra, rfl⟩ := ha
  obtain ⟨t, n, j, rb, rfl⟩ := hb
  have hv : sg (s ^^ t) (((m * n : Nat) : Rat) * 2 ^ (i + j)) = sg s ((m : Rat) * 2 ^ i) * sg t ((n : Rat) * 2 ^ j) := by
    rw [← sg_mul, p2_add]; congr 1; push_cast; grind
  obtain ⟨z, hz, hn⟩ := write_num (fmt_ok k) hv h1 h2
  exact ⟨_, z, by simp [fmul, Format.mul, ra, rb, Datum.product], hz, hn⟩

/-- comparing -/
theorem order_num {k : FloatKind} {a b : Nat} {x y : Rat} (ha : NumK k a x) (hb : NumK k b y) :
    k.format.order a b = some (if x < y then .lt else if x = y then .eq else .gt) := by
  obtain ⟨s, m, i, ra, rfl⟩ := ha
  obtain ⟨t, n, j, rb, rfl⟩ := hb
  simp only [Format.order, ra, rb, Datum.order]
  have e1 := signed_val s m i (min i j) (by omega)
  have e2 := signed_val t n j (min i j) (by omega)
  generalize signed s m (i - min i j).toNat = X at *
  generalize signed t n (j - min i j).toNat = Y at *
  have hp := p2_pos (min i j)
  rw [← e1, ← e2]
  congr 1
  rcases Int.lt_trichotomy X Y with h | h | h
  · have : (X : Rat) * 2 ^ (min i j) < Y * 2 ^ (min i j) := Rat.mul_lt_mul_of_pos_right (Rat.intCast_lt_intCast.2 h) hp
    rw [if_pos this]; simp [compare, compareOfLessAndEq, h]
  · subst h; simp [compare, compareOfLessAndEq, Rat.lt_irrefl]
  · have : (Y : Rat) * 2 ^ (min i j) < X * 2 ^ (min i j) := Rat.mul_lt_mul_of_pos_right (Rat.intCast_lt_intCast.2 h) hp
    rw [if_neg (by grind), if_neg (by grind)]
    have h1 : ¬ X < Y := by omega
    have h2 : ¬ X = Y := by omega
    simp [compare, compareOfLessAndEq, h1, h2]

theorem signWeight_eq (k : FloatKind) : k.format.signWeight = 2 ^ (k.format.exponentBits + k.format.fractionBits) := rfl

theorem neg_num {k : FloatKind} {b : Nat} {v : Rat} (h : NumK k b v) : NumK k (Op.negFloat k b) (-v) := by
  obtain ⟨s, m, e, hr, rfl⟩ := h
  refine ⟨!s, m, e, ?_, (sg_neg s _).symm⟩
  unfold Op.negFloat
  generalize hw : k.format.exponentBits + k.format.fractionBits = W
  have hsw : k.format.signWeight = 2 ^ W := by rw [signWeight_eq, hw]
  have e1 : (b ^^^ 2 ^ W) % 2 ^ W = b % 2 ^ W := by
    apply Nat.eq_of_testBit_eq; intro i
    simp only [Nat.testBit_mod_two_pow, Nat.testBit_xor, Nat.testBit_two_pow]
    by_cases hi : i < W
    · have : ¬ W = i := by omega
      simp [hi, this]
    · simp [hi]
  have e2 : ((b ^^^ 2 ^ W) / 2 ^ W % 2 == 1) = !(b / 2 ^ W % 2 == 1) := by
    have h1 : ∀ x : Nat, (x / 2 ^ W % 2 == 1) = x.testBit W := fun x => by
      rw [Nat.testBit_eq_decide_div_mod_eq]; rfl
    rw [h1, h1, Nat.testBit_xor, Nat.testBit_two_pow_self]; simp
  unfold Format.read at hr ⊢
  rw [hsw] at hr ⊢
  simp only [e1, e2]
  simp only at hr
  split at hr
  · rename_i h; rw [if_pos h]; injection hr with a b c; rw [a, b, c]
  · rename_i h; rw [if_neg h]
    split at hr
    · rename_i h'; rw [if_pos h']; injection hr with a b c; rw [a, b, c]
    · split at hr <;> cases hr

theorem abs_num {b : Nat} {v : Rat} (h : NumK .f64 b v) : ∃ u, NumK .f64 (absBits b) u ∧ (0 ≤ v → u = v) ∧ (v ≤ 0 → u = -v) ∧ 0 ≤ u := by
  obtain ⟨s, m, e, hr, rfl⟩ := h
  have hm : (0 : Rat) ≤ (m : Rat) * 2 ^ e := Rat.mul_nonneg Rat.natCast_nonneg (Rat.le_of_lt (p2_pos e))
  refine ⟨(m : Rat) * 2 ^ e, ⟨false, m, e, ?_, rfl⟩, ?_, ?_, hm⟩
  · have hsw : FloatKind.f64.format.signWeight = 2 ^ 63 := rfl
    unfold absBits
    unfold Format.read at hr ⊢
    rw [hsw] at hr ⊢
    have e1 : b % 2 ^ 63 % 2 ^ 63 = b % 2 ^ 63 := Nat.mod_mod _ _
    have e2 : (b % 2 ^ 63 / 2 ^ 63 % 2 == 1) = false := by rw [Nat.div_eq_of_lt (Nat.mod_lt _ (Nat.two_pow_pos _))]; rfl
    simp only [e1, e2]
    simp only at hr
    split at hr
    · rename_i h; rw [if_pos h]; injection hr with a b c; rw [b, c]
    · rename_i h; rw [if_neg h]
      split at hr
      · rename_i h'; rw [if_pos h']; injection hr with a b c; rw [b, c]
      · split at hr <;> cases hr
  · intro h; cases s
    · rfl
    · simp only [sg, if_true] at h ⊢; grind
  · intro h; cases s
    · simp only [sg, Bool.false_eq_true, if_false] at h ⊢; grind
    · simp [sg]

theorem rep_widen {x : Rat} (h : Rep FloatKind.f32.format x) : Rep FloatKind.f64.format x := by
  obtain ⟨s, c, l, h1, h2, h3⟩ := h
  exact ⟨s, c, l, h1, Nat.le_trans h2 (by decide), Int.le_trans (by decide) h3⟩

theorem num_not_inf {f : Format} {b : Nat} {v : Rat} (h : Num f b v) : (f.read b).isInfinity = false := by
  obtain ⟨s, m, e, hr, _⟩ := h
  rw [hr]; rfl

/-- a finite 32-bit float is below 2^128 -/
theorem num32_lt {b : Nat} {v : Rat} (h : NumK .f32 b v) : v < 2 ^ (128 : Int) ∧ -2 ^ (128 : Int) < v := by
  obtain ⟨s, m, e, hr, rfl⟩ := h
  have key : (m : Rat) * 2 ^ e < 2 ^ (128 : Int) := by
    have hB : FloatKind.f32.format.binade = 8388608 := rfl
    have hI : FloatKind.f32.format.infRung = 2139095040 := rfl
    have hlp : FloatKind.f32.format.leastPlace = -149 := rfl
    unfold Format.read at hr
    simp only at hr
    generalize b % FloatKind.f32.format.signWeight = R at hr
    have fin : m < 16777216 → e ≤ 104 → (m : Rat) * 2 ^ e < 2 ^ (128 : Int) := by
      intro h1 h2
      have g1 : (m : Rat) < 2 ^ (24 : Int) := by
        have : ((m : Nat) : Rat) < ((16777216 : Nat) : Rat) := Rat.natCast_lt_natCast.2 h1
        have e : (2 : Rat) ^ (24 : Int) = ((16777216 : Nat) : Rat) := p2_nat 24
        rw [e]; exact this
      have g2 : (2 : Rat) ^ e ≤ 2 ^ (104 : Int) := p2_mono h2
      have g3 : (m : Rat) * 2 ^ e < 2 ^ (24 : Int) * 2 ^ e := Rat.mul_lt_mul_of_pos_right g1 (p2_pos e)
      have g4 : (2 : Rat) ^ (24 : Int) * 2 ^ e ≤ 2 ^ (24 : Int) * 2 ^ (104 : Int) := Rat.mul_le_mul_of_nonneg_left g2 (Rat.le_of_lt (p2_pos 24))
      rw [← p2_add 24 104] at g4
      grind
    split at hr
    · rename_i h; injection hr with a b c
      refine fin (by omega) (by omega)
    · split at hr
      · rename_i h1 h2; injection hr with a b c
        have := Nat.mod_lt R (show 0 < FloatKind.f32.format.binade by decide)
        have h3 : R / FloatKind.f32.format.binade ≤ 254 := by
          rw [hB]; rw [hI] at h2; omega
        refine fin (by omega) (by omega)
      · split at hr <;> cases hr
  have h0 : (0 : Rat) ≤ (m : Rat) * 2 ^ e := Rat.mul_nonneg Rat.natCast_nonneg (Rat.le_of_lt (p2_pos e))
  have := p2_pos 128
  cases s
  · simp only [sg, Bool.false_eq_true, if_false]; constructor <;> grind
  · simp only [sg, if_true]; constructor <;> grind

theorem widen_num {b : Nat} {v : Rat} (h : NumK .f32 b v) : ∃ r, widen b = some r ∧ NumK .f64 r v ∧ r < 2 ^ 64 := by
  have hrep := rep_widen (num_rep h)
  have hlt := num32_lt h
  obtain ⟨s, m, e, hr, rfl⟩ := h
  have ht : (2 : Rat) ^ (128 : Int) ≤ 2 ^ top FloatKind.f64.format := p2_mono (by decide)
  obtain ⟨y, hy, hn⟩ := write_num (fmt_ok .f64) (rfl : sg s ((m : Rat) * 2 ^ e) = _) (by grind) (by grind)
  have := near_exact hn hrep
  subst this
  have hinf := num_not_inf hy
  refine ⟨FloatKind.f64.encode (.number s m e), ?_, hy, FloatKind.f64.format.write_lt _⟩
  unfold widen floatToFloatBits
  rw [if_neg (by decide)]
  have hd : FloatKind.f32.decode b = .number s m e := hr
  rw [hd]
  simp only
  rw [if_neg]
  intro hc
  have : FloatKind.f64.decode (FloatKind.f64.encode (.number s m e)) = FloatKind.f64.format.read (FloatKind.f64.format.write (.number s m e)) := rfl
  rw [this, hinf] at hc; cases hc

theorem narrow_num {b : Nat} {v : Rat} (h : NumK .f64 b v) (h1 : v < 2 ^ (127 : Int)) (h2 : -2 ^ (127 : Int) < v) : ∃ r y, narrow b = some r ∧ NumK .f32 r y ∧ Near FloatKind.f32.format v y := by
  obtain ⟨s, m, e, hr, rfl⟩ := h
  obtain ⟨y, hy, hn⟩ := write_num (fmt_ok .f32) (rfl : sg s ((m : Rat) * 2 ^ e) = _) h1 h2
  have hinf := num_not_inf hy
  refine ⟨FloatKind.f32.encode (.number s m e), y, ?_, hy, hn⟩
  unfold narrow floatToFloatBits
  rw [if_neg (by decide)]
  have hd : FloatKind.f64.decode b = .number s m e := hr
  rw [hd]
  simp only
  rw [if_neg]
  intro hc
  have : FloatKind.f32.decode (FloatKind.f32.encode (.number s m e)) = FloatKind.f32.format.read (FloatKind.f32.format.write (.number s m e)) := rfl
  rw [this, hinf] at hc; cases hc

theorem ofInt_num {k : FloatKind} (n : Int) (h : n.natAbs ≤ 2 ^ 24) : NumK k (floatOfInt k n) (n : Rat) := by
  have hv : sg (decide (n < 0)) ((n.natAbs : Rat) * 2 ^ (0 : Int)) = (n : Rat) := by
    rw [natAbs_sg _ _ _ (fun _ => rfl), p2_zero, Rat.mul_one]
  have hle : (n.natAbs : Rat) * 2 ^ (0 : Int) < 2 ^ top k.format := by
    have h1 : (n.natAbs : Rat) ≤ 2 ^ (24 : Int) := by
      have e : (2 : Rat) ^ (24 : Int) = ((2 ^ 24 : Nat) : Rat) := p2_nat 24
      rw [e]; exact Rat.natCast_le_natCast.2 h
    rw [p2_zero, Rat.mul_one]
    have := p2_lt (show (24 : Int) < top k.format by cases k <;> decide)
    grind
  obtain ⟨y, hy, hn⟩ := nearest_near k.format (fmt_ok k) (decide (n < 0)) n.natAbs 0 hle
  rw [hv] at hn
  have hrep : Rep k.format (n : Rat) := ⟨_, _, _, hv.symm, Nat.le_trans h (by cases k <;> decide), by cases k <;> decide⟩
  have := near_exact hn hrep
  subst this
  exact hy
end Go.Proofs.Ytjhicedblobjfaa

namespace Go.Proofs.Ytjhicedblobjfaa
open Ieee

theorem rat_cancel {a b c : Rat} (hc : 0 < c) (h : a * c = b * c) : a = b := by
  have : (a - b) * c = 0 := by grind
  rcases Rat.mul_eq_zero.1 this with h | h <;> grind

theorem int_even_le {A : Int} {Q : Nat} {h : Nat} (hh : 1 ≤ h) (k : A * 2 ^ h ≤ 2 * Q + 1) : A * 2 ^ h ≤ 2 * Q := by
  obtain ⟨g, rfl⟩ : ∃ g, h = g + 1 := ⟨h - 1, by omega⟩
  rw [Int.pow_succ, ← Int.mul_assoc] at *
  omega
theorem int_even_ge {A : Int} {Q : Nat} {h : Nat} (hh : 1 ≤ h) (k : 2 * (Q : Int) + 1 ≤ A * 2 ^ h) : 2 * (Q : Int) + 2 ≤ A * 2 ^ h := by
  obtain ⟨g, rfl⟩ : ∃ g, h = g + 1 := ⟨h - 1, by omega⟩
  rw [Int.pow_succ, ← Int.mul_assoc] at *
  omega

theorem p2_int (n : Nat) : (2 : Rat) ^ (n : Int) = (((2 : Int) ^ n : Int) : Rat) := by
  rw [p2_nat, Rat.intCast_pow]; push_cast; rfl

/-- what is known of t = (2Q+1) 2^k and a multiple of a higher power of two -/
theorem odd_ge {A : Int} {Q : Nat} {k l : Int} (hl : k + 1 ≤ l) (h : (A : Rat) * 2 ^ l ≤ ((2 * Q + 1 : Nat) : Rat) * 2 ^ k) : (A : Rat) * 2 ^ l ≤ ((2 * Q : Nat) : Rat) * 2 ^ k := by
  obtain ⟨n, rfl⟩ : ∃ n : Nat, l = n + k := ⟨(l - k).toNat, by omega⟩
  have hp := p2_pos k
  rw [p2_add, ← Rat.mul_assoc, p2_int] at *
  have h1 := Rat.le_of_mul_le_mul_right h hp
  rw [← Rat.intCast_mul] at h1 ⊢
  have e : ((2 * Q + 1 : Nat) : Rat) = ((2 * (Q : Int) + 1 : Int) : Rat) := by push_cast; rfl
  rw [e] at h1
  have h2 := int_even_le (by omega) (Rat.intCast_le_intCast.1 h1)
  have h3 := Rat.intCast_le_intCast.2 h2
  have e2 : ((2 * Q : Nat) : Rat) = ((2 * (Q : Int) : Int) : Rat) := by push_cast; rfl
  rw [e2]
  exact Rat.mul_le_mul_of_nonneg_right h3 (Rat.le_of_lt hp)
theorem odd_le {A : Int} {Q : Nat} {k l : Int} (hl : k + 1 ≤ l) (h : ((2 * Q + 1 : Nat) : Rat) * 2 ^ k ≤ (A : Rat) * 2 ^ l) : ((2 * Q + 2 : Nat) : Rat) * 2 ^ k ≤ (A : Rat) * 2 ^ l := by
  obtain ⟨n, rfl⟩ : ∃ n : Nat, l = n + k := ⟨(l - k).toNat, by omega⟩
  have hp := p2_pos k
  rw [p2_add, ← Rat.mul_assoc, p2_int] at *
  have h1 := Rat.le_of_mul_le_mul_right h hp
  rw [← Rat.intCast_mul] at h1 ⊢
  have e : ((2 * Q + 1 : Nat) : Rat) = ((2 * (Q : Int) + 1 : Int) : Rat) := by push_cast; rfl
  rw [e] at h1
  have h2 := int_even_ge (by omega) (Rat.intCast_le_intCast.1 h1)
  have h3 := Rat.intCast_le_intCast.2 h2
  have e2 : ((2 * Q + 2 : Nat) : Rat) = ((2 * (Q : Int) + 2 : Int) : Rat) := by push_cast; rfl
  rw [e2]
  exact Rat.mul_le_mul_of_nonneg_right h3 (Rat.le_of_lt hp)

theorem last_ge {f : Format} {t : Rat} {L last k : Int} {N : Nat} (hN : 2 ^ (f.fractionBits + 2) ≤ N) (ht : (N : Rat) * 2 ^ k ≤ t) (hl : Lead t L) (hlast : last = max (L - f.fractionBits) f.leastPlace) : k + 2 ≤ last := by
  have h1 : (2 : Rat) ^ (((f.fractionBits + 2 : Nat) : Int)) * 2 ^ k ≤ (N : Rat) * 2 ^ k := by
    rw [p2_nat]; exact Rat.mul_le_mul_of_nonneg_right (Rat.natCast_le_natCast.2 hN) (Rat.le_of_lt (p2_pos k))
  rw [← p2_add] at h1
  have h2 := p2_lt_inv (show (2 : Rat) ^ (((f.fractionBits + 2 : Nat) : Int) + k) < 2 ^ (L + 1) by have := hl.2; grind)
  omega

theorem half_place (c : Rat) (last : Int) : c * 2 ^ last = 2 * c * 2 ^ (last - 1) := by
  have : (2 : Rat) ^ last = 2 * 2 ^ (last - 1) := by rw [← p2_succ]; congr 1; omega
  rw [this]; grind

theorem rne_parts {x : Rat} {last : Int} {c : Nat} (h : Rne (x * 2 ^ (-last)) c) : ((2 * (c : Int) - 1 : Int) : Rat) * 2 ^ (last - 1) ≤ x ∧ x ≤ ((2 * (c : Int) + 1 : Int) : Rat) * 2 ^ (last - 1) := by
  have hp := p2_pos last
  have e1 : x * 2 ^ (-last) * 2 ^ last = x := by rw [Rat.mul_assoc, p2_neg_mul, Rat.mul_one]
  have e2 : (2 : Rat) ^ last = 2 * 2 ^ (last - 1) := by rw [← p2_succ]; congr 1; omega
  have m1 := Rat.mul_le_mul_of_nonneg_right h.1 (Rat.le_of_lt hp)
  have m2 := Rat.mul_le_mul_of_nonneg_right h.2.1 (Rat.le_of_lt hp)
  have c1 : ((2 * (c : Int) - 1 : Int) : Rat) = 2 * (c : Rat) - 1 := by push_cast; rfl
  have c2 : ((2 * (c : Int) + 1 : Int) : Rat) = 2 * (c : Rat) + 1 := by push_cast; rfl
  rw [c1, c2]
  generalize (2 : Rat) ^ last = P at *
  generalize (2 : Rat) ^ (-last) = M at *
  generalize (2 : Rat) ^ (last - 1) = H at *
  subst e2
  constructor <;> grind

theorem nearPos_sticky {f : Format} {Q : Nat} {k : Int} {v y : Rat} (hQ : 2 ^ (f.fractionBits + 1) ≤ Q) (h1 : ((2 * Q : Nat) : Rat) * 2 ^ k < v) (h2 : v < ((2 * Q + 2 : Nat) : Rat) * 2 ^ k)
    (h : NearPos f (((2 * Q + 1 : Nat) : Rat) * 2 ^ k) y) : NearPos f v y := by
  obtain ⟨L, last, c, hl, hlast, hr, hy⟩ := h
  have hk : k + 2 ≤ last := last_ge (N := 2 * Q + 1) (by rw [Nat.pow_succ]; omega) Rat.le_refl hl hlast
  have hkL : k + 1 ≤ L := by
    have h3 : (2 : Rat) ^ (1 : Int) * 2 ^ k ≤ ((2 * Q + 1 : Nat) : Rat) * 2 ^ k := by
      refine Rat.mul_le_mul_of_nonneg_right ?_ (Rat.le_of_lt (p2_pos k))
      have : 2 ≤ 2 * Q + 1 := by have := Nat.two_pow_pos (f.fractionBits + 1); omega
      have := Rat.natCast_le_natCast.2 this
      rw [p2_one]; exact this
    rw [← p2_add] at h3
    have := p2_lt_inv (show (2 : Rat) ^ (1 + k) < 2 ^ (L + 1) by have := hl.2; grind)
    omega
  have hv : Lead v L := by
    constructor
    · have := odd_ge (A := 1) (Q := Q) (l := L) hkL (by have := hl.1; simpa using this)
      have := (by simpa using this : (2 : Rat) ^ L ≤ ((2 * Q : Nat) : Rat) * 2 ^ k)
      grind
    · have := odd_le (A := 1) (Q := Q) (k := k) (l := L + 1) (by omega) (by have := hl.2; simpa using Rat.le_of_lt this)
      have := (by simpa using this : ((2 * Q + 2 : Nat) : Rat) * 2 ^ k ≤ (2 : Rat) ^ (L + 1))
      grind
  have hp := rne_parts hr
  have g1 := odd_ge (A := 2 * (c : Int) - 1) (l := last - 1) (by omega) hp.1
  have g2 := odd_le (A := 2 * (c : Int) + 1) (l := last - 1) (by omega) hp.2
  refine ⟨L, last, c, hv, hlast, ?_, hy⟩
  have hn := p2_pos (-last)
  have e2 : (2 : Rat) ^ (last - 1) * 2 ^ (-last) * 2 = 1 := by
    rw [← p2_add]; have : last - 1 + -last = -1 := by omega
    rw [this]; have := p2_neg_mul 1; rw [p2_one] at this; exact this
  have c1 : ((2 * (c : Int) - 1 : Int) : Rat) = 2 * (c : Rat) - 1 := by push_cast; rfl
  have c2 : ((2 * (c : Int) + 1 : Int) : Rat) = 2 * (c : Rat) + 1 := by push_cast; rfl
  rw [c1] at g1; rw [c2] at g2
  have s1 : (2 * (c : Rat) - 1) * 2 ^ (last - 1) < v := by grind
  have s2 : v < (2 * (c : Rat) + 1) * 2 ^ (last - 1) := by grind
  have t1 := Rat.mul_lt_mul_of_pos_right s1 hn
  have t2 := Rat.mul_lt_mul_of_pos_right s2 hn
  generalize (2 : Rat) ^ (-last) = M at *
  generalize (2 : Rat) ^ (last - 1) = H at *
  have u1 : 2 * (c : Rat) - 1 < 2 * (v * M) := by
    have : (2 * (c : Rat) - 1) * H * M * 2 = 2 * (c : Rat) - 1 := by
      have : (2 * (c : Rat) - 1) * H * M * 2 = (2 * (c : Rat) - 1) * (H * M * 2) := by grind
      rw [this, e2, Rat.mul_one]
    grind
  have u2 : 2 * (v * M) < 2 * (c : Rat) + 1 := by
    have : (2 * (c : Rat) + 1) * H * M * 2 = 2 * (c : Rat) + 1 := by
      have : (2 * (c : Rat) + 1) * H * M * 2 = (2 * (c : Rat) + 1) * (H * M * 2) := by grind
      rw [this, e2, Rat.mul_one]
    grind
  exact ⟨Rat.le_of_lt u1, Rat.le_of_lt u2, fun h => by rcases h with h | h <;> grind⟩

theorem div_pos_num {k : FloatKind} {m n : Nat} {i j : Int} (hm : m ≠ 0) (hn : n ≠ 0) (more : Nat) (hmore : more = k.format.fractionBits + 2 + n.log2 - m.log2) (st : Nat)
    (hst : st = ((m <<< more) % n != 0).toNat) {y : Rat} (h : NearPos k.format (((2 * ((m <<< more) / n) + st : Nat) : Rat) * 2 ^ (i - j - more - 1)) y) :
    NearPos k.format (((m : Rat) * 2 ^ i) / ((n : Rat) * 2 ^ j)) y := by
  have hnr : (0 : Rat) < (n : Rat) := Rat.natCast_pos.2 (by omega)
  have hdiv := Nat.div_add_mod (m <<< more) n
  have hlt := Nat.mod_lt (m <<< more) (show 0 < n by omega)
  have hbig : 2 ^ (k.format.fractionBits + 1) ≤ (m <<< more) / n := by
    rw [Nat.le_div_iff_mul_le (by omega)]
    have h1 : n < 2 ^ (n.log2 + 1) := Nat.lt_log2_self
    have h2 : 2 ^ m.log2 ≤ m := Nat.log2_self_le hm
    have h3 : 2 ^ (k.format.fractionBits + 1) * n ≤ 2 ^ (k.format.fractionBits + 1) * 2 ^ (n.log2 + 1) := Nat.mul_le_mul_left _ (by omega)
    rw [← Nat.pow_add] at h3
    have h4 : 2 ^ (k.format.fractionBits + 1 + (n.log2 + 1)) ≤ 2 ^ (m.log2 + more) := Nat.pow_le_pow_right (by decide) (by omega)
    have h5 : 2 ^ (m.log2 + more) ≤ m <<< more := by
      rw [Nat.pow_add, Nat.shiftLeft_eq]; exact Nat.mul_le_mul_right _ h2
    omega
  generalize hQ : (m <<< more) / n = Q at *
  generalize hR : (m <<< more) % n = R at *
  have hsh : ((m <<< more : Nat) : Rat) = (m : Rat) * 2 ^ (more : Int) := by rw [Nat.shiftLeft_eq, p2_nat]; push_cast; rfl
  -- the quotient, in units of 2^(i-j-more-1)
  have hval : ((m : Rat) * 2 ^ i) / ((n : Rat) * 2 ^ j) * (n : Rat) = 2 * ((m <<< more : Nat) : Rat) * 2 ^ (i - j - more - 1) := by
    rw [hsh]
    have hpj := p2_pos j
    have hne : (n : Rat) * 2 ^ j ≠ 0 := by have := Rat.mul_pos hnr hpj; grind
    have e1 : ((m : Rat) * 2 ^ i) / ((n : Rat) * 2 ^ j) * ((n : Rat) * 2 ^ j) = (m : Rat) * 2 ^ i := Rat.div_mul_cancel hne
    have e2 : (2 : Rat) ^ i = 2 * 2 ^ (more : Int) * 2 ^ (i - j - more - 1) * 2 ^ j := by
      rw [Rat.mul_assoc, ← p2_add, Rat.mul_assoc, ← p2_add, ← p2_succ]; congr 1; omega
    have e3 : (((m : Rat) * 2 ^ i) / ((n : Rat) * 2 ^ j) * (n : Rat)) * 2 ^ j = (2 * ((m : Rat) * 2 ^ (more : Int)) * 2 ^ (i - j - more - 1)) * 2 ^ j := by
      rw [Rat.mul_assoc, e1, e2]; grind
    have := rat_cancel hpj e3
    exact this
  generalize ((m : Rat) * 2 ^ i) / ((n : Rat) * 2 ^ j) = v at *
  generalize i - j - (more : Int) - 1 = K at *
  have hK := p2_pos K
  have hNR : ((m <<< more : Nat) : Rat) = (n : Rat) * (Q : Rat) + (R : Rat) := by rw [← hdiv]; push_cast; rfl
  rw [hNR] at hval
  by_cases hz : R = 0
  · have : st = 0 := by rw [hst, hz]; rfl
    subst this
    subst hz
    have e : v = ((2 * Q + 0 : Nat) : Rat) * 2 ^ K := by
      have : v * (n : Rat) = (((2 * Q + 0 : Nat) : Rat) * 2 ^ K) * (n : Rat) := by rw [hval]; push_cast; grind
      exact rat_cancel hnr this
    rw [e]; exact h
  · have : st = 1 := by
      rw [hst]
      have : (R != 0) = true := by simpa using hz
      rw [this]; rfl
    subst this
    refine nearPos_sticky hbig ?_ ?_ h
    · have hR0 : (0 : Rat) < (R : Rat) := Rat.natCast_pos.2 (by omega)
      have : ((2 * Q : Nat) : Rat) * 2 ^ K * (n : Rat) < v * (n : Rat) := by
        rw [hval]; push_cast
        have := Rat.mul_pos hR0 hK
        grind
      exact Rat.lt_of_mul_lt_mul_right this (Rat.le_of_lt hnr)
    · have hRn : (R : Rat) < (n : Rat) := Rat.natCast_lt_natCast.2 hlt
      have : v * (n : Rat) < ((2 * Q + 2 : Nat) : Rat) * 2 ^ K * (n : Rat) := by
        rw [hval]; push_cast
        have := Rat.mul_lt_mul_of_pos_right hRn hK
        grind
      exact Rat.lt_of_mul_lt_mul_right this (Rat.le_of_lt hnr)
end Go.Proofs.Ytjhicedblobjfaa

namespace Go.Proofs.Ytjhicedblobjfaa
open Ieee

theorem sg_div (s t : Bool) (x y : Rat) : sg (s ^^ t) (x / y) = sg s x / sg t y := by
  cases s <;> cases t <;> simp [sg] <;> grind

theorem div_num {k : FloatKind} {a b : Nat} {x y : Rat} (ha : NumK k a x) (hb : NumK k b y) (hy : y ≠ 0) (h1 : x / y < 2 ^ (top k.format - 1)) (h2 : -2 ^ (top k.format - 1) < x / y) :
    ∃ r z, fdiv k a b = some r ∧ NumK k r z ∧ Near k.format (x / y) z := by
  obtain ⟨s, m, i, ra, rfl⟩ := ha
  obtain ⟨t, n, j, rb, rfl⟩ := hb
  have hn : n ≠ 0 := by
    intro h; subst h; apply hy; cases t <;> simp [sg]
  have hq : Datum.quotient (k.format.fractionBits + 2) (.number s m i) (.number t n j) =
      some (.number (s ^^ t) (2 * ((m <<< (k.format.fractionBits + 2 + n.log2 - m.log2)) / n) + ((m <<< (k.format.fractionBits + 2 + n.log2 - m.log2)) % n != 0).toNat) (i - j - (k.format.fractionBits + 2 + n.log2 - m.log2 : Nat) - 1)) := by
    simp only [Datum.quotient, if_neg hn]
  generalize hmore : k.format.fractionBits + 2 + n.log2 - m.log2 = more at *
  have hfd : fdiv k a b = some (k.format.write (.number (s ^^ t) (2 * ((m <<< more) / n) + ((m <<< more) % n != 0).toNat) (i - j - more - 1))) := by
    simp [fdiv, Format.div, ra, rb, hq]
  rw [hfd]
  by_cases hm : m = 0
  · subst hm
    have e0 : sg s (((0 : Nat) : Rat) * 2 ^ i) / sg t ((n : Rat) * 2 ^ j) = 0 := by
      have : sg s (((0 : Nat) : Rat) * 2 ^ i) = 0 := by cases s <;> simp [sg]
      rw [this, Rat.div_def, Rat.zero_mul]
    have em : 2 * ((0 <<< more) / n) + ((0 <<< more) % n != 0).toNat = 0 := by simp
    rw [em, e0]
    obtain ⟨z, hz, hnz⟩ := write_num (fmt_ok k) (show sg (s ^^ t) (((0 : Nat) : Rat) * 2 ^ (i - j - (more : Int) - 1)) = 0 by cases s <;> cases t <;> simp [sg]) (p2_pos _) (by have := p2_pos (top k.format); grind)
    exact ⟨_, z, rfl, hz, hnz⟩
  · rw [← sg_div] at h1 h2 ⊢
    have hpos : (0 : Rat) < ((m : Rat) * 2 ^ i) / ((n : Rat) * 2 ^ j) := by
      rw [Rat.div_def]
      exact Rat.mul_pos (Rat.mul_pos (Rat.natCast_pos.2 (by omega)) (p2_pos _)) (Rat.inv_pos.2 (Rat.mul_pos (Rat.natCast_pos.2 (by omega)) (p2_pos _)))
    have hv := sg_lt h1 h2
    -- the written magnitude is at most twice the quotient
    have hdp := fun y => div_pos_num (k := k) (i := i) (j := j) (y := y) hm hn more hmore.symm _ rfl
    have hlt : ((2 * ((m <<< more) / n) + ((m <<< more) % n != 0).toNat : Nat) : Rat) * 2 ^ (i - j - (more : Int) - 1) < 2 ^ top k.format := by
      have hnr : (0 : Rat) < (n : Rat) := Rat.natCast_pos.2 (by omega)
      have hsh : ((m <<< more : Nat) : Rat) = (m : Rat) * 2 ^ (more : Int) := by rw [Nat.shiftLeft_eq, p2_nat]; push_cast; rfl
      have hval : ((m : Rat) * 2 ^ i) / ((n : Rat) * 2 ^ j) * (n : Rat) = 2 * ((m <<< more : Nat) : Rat) * 2 ^ (i - j - more - 1) := by
        rw [hsh]
        have hpj := p2_pos j
        have hne : (n : Rat) * 2 ^ j ≠ 0 := by have := Rat.mul_pos hnr hpj; grind
        have e1 : ((m : Rat) * 2 ^ i) / ((n : Rat) * 2 ^ j) * ((n : Rat) * 2 ^ j) = (m : Rat) * 2 ^ i := Rat.div_mul_cancel hne
        have e2 : (2 : Rat) ^ i = 2 * 2 ^ (more : Int) * 2 ^ (i - j - more - 1) * 2 ^ j := by
          rw [Rat.mul_assoc, ← p2_add, Rat.mul_assoc, ← p2_add, ← p2_succ]; congr 1; omega
        have e3 : (((m : Rat) * 2 ^ i) / ((n : Rat) * 2 ^ j) * (n : Rat)) * 2 ^ j = (2 * ((m : Rat) * 2 ^ (more : Int)) * 2 ^ (i - j - more - 1)) * 2 ^ j := by
          rw [Rat.mul_assoc, e1, e2]; grind
        exact rat_cancel hpj e3
      have hle : 2 * ((m <<< more) / n) + ((m <<< more) % n != 0).toNat ≤ 4 * ((m <<< more) / n) + 1 := by
        have : ((m <<< more) % n != 0).toNat ≤ 1 := Bool.toNat_le _
        omega
      have hQ1 : 1 ≤ (m <<< more) / n := by
        rw [Nat.le_div_iff_mul_le (by omega)]
        have h3 : n < 2 ^ (n.log2 + 1) := Nat.lt_log2_self
        have h4 : 2 ^ m.log2 ≤ m := Nat.log2_self_le hm
        have h5 : 2 ^ (n.log2 + 1) ≤ 2 ^ (m.log2 + more) := Nat.pow_le_pow_right (by decide) (by omega)
        have h6 : 2 ^ (m.log2 + more) ≤ m <<< more := by
          rw [Nat.pow_add, Nat.shiftLeft_eq]; exact Nat.mul_le_mul_right _ h4
        omega
      have hle2 : (2 * ((m <<< more) / n) + ((m <<< more) % n != 0).toNat) * n ≤ 4 * (m <<< more) := by
        have : ((m <<< more) % n != 0).toNat ≤ 1 := Bool.toNat_le _
        have h7 : 2 * ((m <<< more) / n) + ((m <<< more) % n != 0).toNat ≤ 4 * ((m <<< more) / n) := by omega
        have h8 := Nat.mul_le_mul_right n h7
        have h9 := Nat.div_mul_le_self (m <<< more) n
        rw [Nat.mul_assoc] at h8
        omega
      generalize 2 * ((m <<< more) / n) + ((m <<< more) % n != 0).toNat = T at *
      generalize ((m : Rat) * 2 ^ i) / ((n : Rat) * 2 ^ j) = v at *
      generalize i - j - (more : Int) - 1 = K at *
      have hK := p2_pos K
      have g1 : (T : Rat) * (n : Rat) ≤ 4 * ((m <<< more : Nat) : Rat) := by
        have := Rat.natCast_le_natCast.2 hle2
        push_cast at this; exact this
      have g2 : (T : Rat) * 2 ^ K * (n : Rat) ≤ (2 * v) * (n : Rat) := by
        have := Rat.mul_le_mul_of_nonneg_right g1 (Rat.le_of_lt hK)
        grind
      have g3 := Rat.le_of_mul_le_mul_right g2 hnr
      have g4 : (2 : Rat) ^ top k.format = 2 * 2 ^ (top k.format - 1) := by rw [← p2_succ]; congr 1; omega
      grind
    obtain ⟨z, hz, hnz⟩ := nearest_near k.format (fmt_ok k) (s ^^ t) _ _ hlt
    refine ⟨_, z, rfl, hz, ?_⟩
    have hT0 : (0 : Rat) < ((2 * ((m <<< more) / n) + ((m <<< more) % n != 0).toNat : Nat) : Rat) * 2 ^ (i - j - (more : Int) - 1) := by
      refine Rat.mul_pos (Rat.natCast_pos.2 ?_) (p2_pos _)
      by_cases h : (m <<< more) / n = 0
      · have h9 := Nat.div_add_mod (m <<< more) n
        have h10 : m <<< more ≠ 0 := by rw [Nat.shiftLeft_eq]; exact Nat.mul_ne_zero hm (Nat.pos_iff_ne_zero.1 (Nat.two_pow_pos _))
        rw [h] at h9
        have : (m <<< more) % n ≠ 0 := by omega
        have : ((m <<< more) % n != 0) = true := by simpa using this
        rw [this]; simp
      · omega
    generalize ((2 * ((m <<< more) / n) + ((m <<< more) % n != 0).toNat : Nat) : Rat) * 2 ^ (i - j - (more : Int) - 1) = T at *
    cases hst : (s ^^ t)
    · rw [hst] at hnz
      simp only [sg, Bool.false_eq_true, if_false] at hnz ⊢
      rcases hnz with ⟨h, _⟩ | ⟨_, h⟩ | ⟨h, _⟩
      · grind
      · exact Or.inr (Or.inl ⟨hpos, hdp _ h⟩)
      · grind
    · rw [hst] at hnz
      simp only [sg, if_true] at hnz ⊢
      rcases hnz with ⟨h, _⟩ | ⟨h, _⟩ | ⟨_, h⟩
      · grind
      · grind
      · rw [Rat.neg_neg] at h
        refine Or.inr (Or.inr ⟨by grind, ?_⟩)
        rw [Rat.neg_neg]; exact hdp _ h

/-! ### square roots -/
theorem rootFrom_spec (n : Nat) : ∀ (todo root : Nat), root * root ≤ n → n < (root + 2 ^ todo) * (root + 2 ^ todo) →
    Datum.rootFrom n todo root * Datum.rootFrom n todo root ≤ n ∧ n < (Datum.rootFrom n todo root + 1) * (Datum.rootFrom n todo root + 1)
  | 0, root, h1, h2 => by simpa [Datum.rootFrom] using ⟨h1, h2⟩
  | todo + 1, root, h1, h2 => by
    unfold Datum.rootFrom
    have e : 1 <<< todo = 2 ^ todo := Nat.one_shiftLeft todo
    have e2 : root + 2 ^ (todo + 1) = root + 2 ^ todo + 2 ^ todo := by rw [Nat.pow_succ]; omega
    simp only [e]
    by_cases h : (root + 2 ^ todo) * (root + 2 ^ todo) ≤ n
    · rw [if_pos h]
      exact rootFrom_spec n todo _ h (by rw [← e2]; exact h2)
    · rw [if_neg h]
      exact rootFrom_spec n todo _ h1 (by omega)

/-- y is the 64-bit float nearest to the root of x > 0 -/
def NearRoot (x y : Rat) : Prop :=
  ∃ (last : Int) (c : Nat), y = (c : Rat) * 2 ^ last ∧ 2 ^ 52 ≤ c ∧ c ≤ 2 ^ 53 ∧ 2 ^ (last + 52) * 2 ^ (last + 52) ≤ x ∧ x < 2 ^ (last + 53) * 2 ^ (last + 53) ∧
    ((2 * (c : Rat) - 1) * 2 ^ (last - 1)) * ((2 * (c : Rat) - 1) * 2 ^ (last - 1)) ≤ x ∧ x ≤ ((2 * (c : Rat) + 1) * 2 ^ (last - 1)) * ((2 * (c : Rat) + 1) * 2 ^ (last - 1))

theorem sq_le {a b : Rat} (h0 : 0 ≤ a) (h : a ≤ b) : a * a ≤ b * b := by
  have h1 := Rat.mul_le_mul_of_nonneg_left h h0
  have h2 := Rat.mul_le_mul_of_nonneg_right h (show 0 ≤ b by grind)
  grind
theorem sq_lt {a b : Rat} (h0 : 0 ≤ a) (h : a < b) : a * a < b * b := by
  have h1 := Rat.mul_le_mul_of_nonneg_left (Rat.le_of_lt h) h0
  have h2 := Rat.mul_lt_mul_of_pos_right h (show 0 < b by grind)
  grind
theorem le_of_sq {a b : Rat} (hb : 0 ≤ b) (h : a * a ≤ b * b) : a ≤ b := by
  apply Classical.byContradiction; intro hn
  have := sq_lt hb (show b < a by grind)
  grind

theorem read64_parts {b : Nat} {s : Bool} {m : Nat} {e : Int} (hr : FloatKind.f64.format.read b = .number s m e) : m < 2 ^ 53 ∧ -1074 ≤ e ∧ e ≤ 971 := by
  have hB : FloatKind.f64.format.binade = 4503599627370496 := rfl
  have hI : FloatKind.f64.format.infRung = 9218868437227405312 := rfl
  have hlp : FloatKind.f64.format.leastPlace = -1074 := rfl
  unfold Format.read at hr
  simp only at hr
  generalize b % FloatKind.f64.format.signWeight = R at hr
  split at hr
  · rename_i h; injection hr with a b c
    rw [hB] at h; omega
  · split at hr
    · rename_i h1 h2; injection hr with a b c
      have := Nat.mod_lt R (show 0 < FloatKind.f64.format.binade by decide)
      have h3 : R / FloatKind.f64.format.binade ≤ 2046 := by
        rw [hB]; rw [hI] at h2; omega
      omega
    · split at hr <;> cases hr

theorem p2_sq (a : Int) : (2 : Rat) ^ a * 2 ^ a = 2 ^ (2 * a) := by rw [← p2_add]; congr 1; omega

theorem sqrt_num {a : Nat} {x : Rat} (ha : NumK .f64 a x) (hx : 0 ≤ x) :
    ∃ r y, fsqrt a = some r ∧ NumK .f64 r y ∧ ((x = 0 ∧ y = 0) ∨ (0 < x ∧ 0 < y ∧ NearRoot x y)) := by
  obtain ⟨s, m, i, ra, rfl⟩ := ha
  have hparts := read64_parts ra
  by_cases hm : m = 0
  · subst hm
    obtain ⟨y, hy, hn⟩ := nearest_near FloatKind.f64.format (fmt_ok .f64) s 0 i (by rw [show ((0 : Nat) : Rat) = 0 from rfl, Rat.zero_mul]; exact p2_pos _)
    have e0 : sg s (((0 : Nat) : Rat) * 2 ^ i) = 0 := by cases s <;> simp [sg]
    rw [e0] at hn ⊢
    have hrep : Rep FloatKind.f64.format 0 := ⟨false, 0, 0, by simp [sg], Nat.zero_le _, by decide⟩
    refine ⟨_, y, by simp only [fsqrt, Format.sqrt, ra, Datum.root, if_true, Option.map]; rfl, hy, Or.inl ⟨rfl, near_exact hn hrep⟩⟩
  · have hmr : (0 : Rat) < (m : Rat) * 2 ^ i := Rat.mul_pos (Rat.natCast_pos.2 (by omega)) (p2_pos _)
    have hs : s = false := by
      cases s
      · rfl
      · simp only [sg, if_true] at hx; grind
    subst hs
    have hxe : sg false ((m : Rat) * 2 ^ i) = (m : Rat) * 2 ^ i := rfl
    rw [hxe] at hx ⊢
    obtain ⟨more, hmore, hev⟩ : ∃ more : Nat, (2 * (52 + 2) - m.log2 + ((i - (2 * (52 + 2) - m.log2 : Nat)) % 2).toNat = more) ∧ (i - more) % 2 = 0 := ⟨_, rfl, by omega⟩
    have hroot : Datum.root (FloatKind.f64.format.fractionBits + 2) (.number false m i) =
        some (.number false (2 * Datum.rootFrom (m <<< more) ((m <<< more).log2 / 2 + 1) 0 + (Datum.rootFrom (m <<< more) ((m <<< more).log2 / 2 + 1) 0 * Datum.rootFrom (m <<< more) ((m <<< more).log2 / 2 + 1) 0 != m <<< more).toNat) ((i - more) / 2 - 1)) := by
      have hfb : FloatKind.f64.format.fractionBits = 52 := rfl
      simp only [Datum.root, if_neg hm, Bool.false_eq_true, if_false, hfb]
      rw [hmore]
    obtain ⟨K, hK⟩ : ∃ K, (i - (more : Int)) / 2 - 1 = K := ⟨_, rfl⟩
    have hiK : i - more = (K + 1) + (K + 1) := by omega
    generalize hN : m <<< more = N at *
    have hNle : N < 2 ^ (N.log2 + 1) := Nat.lt_log2_self
    have hspec := rootFrom_spec N (N.log2 / 2 + 1) 0 (by simp) (by
      rw [Nat.zero_add, ← Nat.pow_add]
      exact Nat.lt_of_lt_of_le hNle (Nat.pow_le_pow_right (by decide) (by omega)))
    generalize Datum.rootFrom N (N.log2 / 2 + 1) 0 = W at *
    have hlog : m.log2 < 53 := (Nat.log2_lt hm).2 hparts.1
    have hNbig : 2 ^ 108 ≤ N := by
      have h4 : 2 ^ m.log2 ≤ m := Nat.log2_self_le hm
      rw [← hN, Nat.shiftLeft_eq]
      have h6 : 2 ^ (m.log2 + more) ≤ m * 2 ^ more := by
        rw [Nat.pow_add]; exact Nat.mul_le_mul_right _ h4
      have h7 : 2 ^ 108 ≤ 2 ^ (m.log2 + more) := Nat.pow_le_pow_right (by decide) (by omega)
      omega
    have hW : 2 ^ 54 ≤ W := by
      apply Classical.byContradiction; intro h
      have h8 : (W + 1) * (W + 1) ≤ 2 ^ 54 * 2 ^ 54 := Nat.mul_le_mul (by omega) (by omega)
      rw [← Nat.pow_add] at h8
      omega
    have hxN : (m : Rat) * 2 ^ i = (N : Rat) * (2 ^ (K + 1) * 2 ^ (K + 1)) := by
      have hsh : (N : Rat) = (m : Rat) * 2 ^ (more : Int) := by rw [← hN, Nat.shiftLeft_eq, p2_nat]; push_cast; rfl
      rw [hsh, Rat.mul_assoc, ← p2_add, ← p2_add]; congr 2; omega
    have hK1 : (2 : Rat) ^ (K + 1) = 2 * 2 ^ K := p2_succ K
    have hKp := p2_pos K
    have q1 : (W : Rat) * (W : Rat) ≤ (N : Rat) := by have := Rat.natCast_le_natCast.2 hspec.1; push_cast at this; exact this
    have q2 : (N : Rat) < ((W : Rat) + 1) * ((W : Rat) + 1) := by have := Rat.natCast_lt_natCast.2 hspec.2; push_cast at this; exact this
    have hxlt : (m : Rat) * 2 ^ i < 2 ^ (1024 : Int) := by
      have g1 : (m : Rat) < 2 ^ (53 : Int) := by
        have e : (2 : Rat) ^ (53 : Int) = ((2 ^ 53 : Nat) : Rat) := p2_nat 53
        rw [e]; exact Rat.natCast_lt_natCast.2 hparts.1
      have g2 : (2 : Rat) ^ i ≤ 2 ^ (971 : Int) := p2_mono hparts.2.2
      have g3 : (m : Rat) * 2 ^ i < 2 ^ (53 : Int) * 2 ^ i := Rat.mul_lt_mul_of_pos_right g1 (p2_pos i)
      have g4 : (2 : Rat) ^ (53 : Int) * 2 ^ i ≤ 2 ^ (53 : Int) * 2 ^ (971 : Int) := Rat.mul_le_mul_of_nonneg_left g2 (Rat.le_of_lt (p2_pos 53))
      rw [← p2_add 53 971] at g4
      grind
    generalize hst : (W * W != N).toNat = st at *
    have hst1 : st ≤ 1 := by rw [← hst]; exact Bool.toNat_le _
    -- squares
    have lowW : ((2 * W : Nat) : Rat) * 2 ^ K * (((2 * W : Nat) : Rat) * 2 ^ K) ≤ (m : Rat) * 2 ^ i := by
      rw [hxN, hK1]
      have := Rat.mul_le_mul_of_nonneg_right q1 (Rat.le_of_lt (Rat.mul_pos hKp hKp))
      push_cast; grind
    have highW : (m : Rat) * 2 ^ i ≤ ((2 * W + 2 : Nat) : Rat) * 2 ^ K * (((2 * W + 2 : Nat) : Rat) * 2 ^ K) := by
      rw [hxN, hK1]
      have := Rat.mul_le_mul_of_nonneg_right (Rat.le_of_lt q2) (Rat.le_of_lt (Rat.mul_pos hKp hKp))
      push_cast; grind
    have htpos : (0 : Rat) < ((2 * W + st : Nat) : Rat) * 2 ^ K := Rat.mul_pos (Rat.natCast_pos.2 (by omega)) hKp
    have hW0 : (0 : Rat) ≤ (W : Rat) := Rat.natCast_nonneg
    have ht4 : ((2 * W + st : Nat) : Rat) * 2 ^ K ≤ 2 * (((2 * W : Nat) : Rat) * 2 ^ K) := by
      have : ((2 * W + st : Nat) : Rat) ≤ 2 * ((2 * W : Nat) : Rat) := by
        have : 2 * W + st ≤ 2 * (2 * W) := by omega
        have := Rat.natCast_le_natCast.2 this
        push_cast at this ⊢; exact this
      have := Rat.mul_le_mul_of_nonneg_right this (Rat.le_of_lt hKp)
      grind
    have hlt : ((2 * W + st : Nat) : Rat) * 2 ^ K < 2 ^ top FloatKind.f64.format := by
      have htop : top FloatKind.f64.format = 1023 := by decide
      rw [htop]
      apply Classical.byContradiction; intro hn
      have h1 : (2 : Rat) ^ (1023 : Int) ≤ ((2 * W + st : Nat) : Rat) * 2 ^ K := by grind
      have h2 : (2 : Rat) ^ (1022 : Int) ≤ ((2 * W : Nat) : Rat) * 2 ^ K := by
        have e : (2 : Rat) ^ (1023 : Int) = 2 * 2 ^ (1022 : Int) := p2_succ 1022
        grind
      have h3 := sq_le (Rat.le_of_lt (p2_pos 1022)) h2
      rw [p2_sq] at h3
      have h4 : (2 : Rat) ^ (1024 : Int) ≤ 2 ^ (2 * 1022 : Int) := p2_mono (by decide)
      grind
    obtain ⟨y, hy, hn⟩ := nearest_near FloatKind.f64.format (fmt_ok .f64) false _ _ hlt
    have hfs : fsqrt a = some (FloatKind.f64.format.nearest false (2 * W + st) K) := by
      simp only [fsqrt, Format.sqrt, ra, hroot, hK, Option.map]; rfl
    refine ⟨_, y, hfs, hy, Or.inr ?_⟩
    have hsgt : sg false (((2 * W + st : Nat) : Rat) * 2 ^ K) = ((2 * W + st : Nat) : Rat) * 2 ^ K := rfl
    rw [hsgt] at hn
    rcases hn with ⟨h, _⟩ | ⟨_, h⟩ | ⟨h, _⟩
    · grind
    · obtain ⟨L, last, c, hl, hlast, hr, rfl⟩ := h
      have hlk : K + 2 ≤ last := last_ge (N := 2 * W + st) (by have : FloatKind.f64.format.fractionBits = 52 := rfl; rw [this]; omega) Rat.le_refl hl hlast
      have hb := nearPos_bounds hl hlast hr
      have hfb : FloatKind.f64.format.fractionBits = 52 := rfl
      have hlp : FloatKind.f64.format.leastPlace = -1074 := rfl
      rw [hfb, hlp] at hb
      have hc : 2 ^ 52 ≤ c := by
        rcases hb.2 with h | h
        · omega
        · exact h
      have hp := rne_parts hr
      have c1 : ((2 * (c : Int) - 1 : Int) : Rat) = 2 * (c : Rat) - 1 := by push_cast; rfl
      have c2 : ((2 * (c : Int) + 1 : Int) : Rat) = 2 * (c : Rat) + 1 := by push_cast; rfl
      have hc1 : (1 : Rat) ≤ (c : Rat) := by
        have : 1 ≤ c := by omega
        exact Rat.natCast_le_natCast.2 this
      have hL : L = last + 52 := by rw [hfb, hlp] at hlast; omega
      have lowL : (2 : Rat) ^ (last + 52) ≤ ((2 * W : Nat) : Rat) * 2 ^ K := by
        by_cases h1 : st = 0
        · subst h1; rw [← hL]; exact hl.1
        · have : st = 1 := by omega
          subst this
          have := odd_ge (A := 1) (Q := W) (k := K) (l := last + 52) (by omega) (by rw [← hL]; have := hl.1; simpa using this)
          simpa using this
      have highL : (m : Rat) * 2 ^ i < 2 ^ (last + 53) * 2 ^ (last + 53) := by
        by_cases h1 : st = 0
        · subst h1
          have hWN : W * W = N := by
            cases h : (W * W != N) with
            | true => rw [h] at hst; cases hst
            | false => simpa using h
          have ex : (m : Rat) * 2 ^ i = ((2 * W : Nat) : Rat) * 2 ^ K * (((2 * W : Nat) : Rat) * 2 ^ K) := by
            rw [hxN, hK1, ← hWN]; push_cast; grind
          rw [ex]
          refine sq_lt (Rat.mul_nonneg Rat.natCast_nonneg (Rat.le_of_lt hKp)) ?_
          have := hl.2; rw [hL, show last + 52 + 1 = last + 53 by omega] at this; exact this
        · have : st = 1 := by omega
          subst this
          have g := odd_le (A := 1) (Q := W) (k := K) (l := last + 53) (by omega) (by have := hl.2; rw [hL, show last + 52 + 1 = last + 53 by omega] at this; simpa using Rat.le_of_lt this)
          have g' : ((2 * W + 2 : Nat) : Rat) * 2 ^ K ≤ 2 ^ (last + 53) := by simpa using g
          have h2 : (m : Rat) * 2 ^ i < ((2 * W + 2 : Nat) : Rat) * 2 ^ K * (((2 * W + 2 : Nat) : Rat) * 2 ^ K) := by
            rw [hxN, hK1]
            have := Rat.mul_lt_mul_of_pos_right q2 (Rat.mul_pos hKp hKp)
            push_cast; grind
          have h3 := sq_le (Rat.mul_nonneg Rat.natCast_nonneg (Rat.le_of_lt hKp)) g'
          grind
      refine ⟨hmr, Rat.mul_pos (by grind) (p2_pos _), last, c, rfl, hc, hb.1, Rat.le_trans (sq_le (Rat.le_of_lt (p2_pos _)) lowL) lowW, highL, ?_, ?_⟩
      · have g : (2 * (c : Rat) - 1) * 2 ^ (last - 1) ≤ ((2 * W : Nat) : Rat) * 2 ^ K := by
          rw [← c1]
          by_cases h1 : st = 0
          · subst h1; exact hp.1
          · have : st = 1 := by omega
            subst this
            exact odd_ge (by omega) hp.1
        exact Rat.le_trans (sq_le (Rat.mul_nonneg (by grind) (Rat.le_of_lt (p2_pos _))) g) lowW
      · by_cases h1 : st = 0
        · subst h1
          have hWN : W * W = N := by
            cases h : (W * W != N) with
            | true => rw [h] at hst; cases hst
            | false => simpa using h
          have ex : (m : Rat) * 2 ^ i = ((2 * W : Nat) : Rat) * 2 ^ K * (((2 * W : Nat) : Rat) * 2 ^ K) := by
            rw [hxN, hK1, ← hWN]; push_cast; grind
          rw [ex]
          have := hp.2
          rw [c2] at this
          exact sq_le (Rat.mul_nonneg Rat.natCast_nonneg (Rat.le_of_lt hKp)) this
        · have : st = 1 := by omega
          subst this
          have g := odd_le (A := 2 * (c : Int) + 1) (Q := W) (k := K) (l := last - 1) (by omega) hp.2
          rw [c2] at g
          exact Rat.le_trans highW (sq_le (Rat.mul_nonneg Rat.natCast_nonneg (Rat.le_of_lt hKp)) g)
    · grind
end Go.Proofs.Ytjhicedblobjfaa
