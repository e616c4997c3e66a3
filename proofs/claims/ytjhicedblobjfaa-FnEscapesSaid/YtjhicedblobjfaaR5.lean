/- Quotients and square roots: the model's last digit that only says 'something is left over' rounds as the exact result does. -/
import Derived.Test.YtjhicedblobjfaaR4
namespace Go.Proofs.Ytjhicedblobjfaa
open Ieee

theorem rat_cancel {a b c : Rat} (hc : 0 < c) (h : a * c = b * c) : a = b := by
  have : (a - b) * c = 0 := by grind
  rcases Rat.mul_eq_zero.1 this with h | h <;> grind

theorem int_even_le {A : Int} {Q : Nat} {h : Nat} (hh : 1 ≤ h) (k : A * 2 ^ h ≤ 2 * Q + 1) : A * 2 ^ h ≤ 2 * Q := by
  obtain ⟨g, rfl⟩ : ∃ g, h = g + 1 := ⟨h - 1, by omega⟩
  rw [Int.pow_succ, ← Int.mul_assoc] at *
  omega
theorem int_even_ge {A : Int} {Q : Nat} {h : Nat} (hh : 1 ≤ h) (k : 2 * (Q : Int) + 1 ≤ A * 2 ^ h) : 2 * (Q : Int) + 2 ≤ A * 2 ^ h := by
  obtain ⟨g, rfl⟩ : ∃ g, h = g + 1 := ⟨h - 1, by omega⟩
  rw [Int.pow_succ, ← Int.mul_assoc] at *
  omega

theorem p2_int (n : Nat) : (2 : Rat) ^ (n : Int) = (((2 : Int) ^ n : Int) : Rat) := by
  rw [p2_nat, Rat.intCast_pow]; push_cast; rfl

/-- what is known of t = (2Q+1) 2^k and a multiple of a higher power of two -/
theorem odd_ge {A : Int} {Q : Nat} {k l : Int} (hl : k + 1 ≤ l) (h : (A : Rat) * 2 ^ l ≤ ((2 * Q + 1 : Nat) : Rat) * 2 ^ k) : (A : Rat) * 2 ^ l ≤ ((2 * Q : Nat) : Rat) * 2 ^ k := by
  obtain ⟨n, rfl⟩ : ∃ n : Nat, l = n + k := ⟨(l - k).toNat, by omega⟩
  have hp := p2_pos k
  rw [p2_add, ← Rat.mul_assoc, p2_int] at *
  have h1 := Rat.le_of_mul_le_mul_right h hp
  rw [← Rat.intCast_mul] at h1 ⊢
  have e : ((2 * Q + 1 : Nat) : Rat) = ((2 * (Q : Int) + 1 : Int) : Rat) := by push_cast; rfl
  rw [e] at h1
  have h2 := int_even_le (by omega) (Rat.intCast_le_intCast.1 h1)
  have h3 := Rat.intCast_le_intCast.2 h2
  have e2 : ((2 * Q : Nat) : Rat) = ((2 * (Q : Int) : Int) : Rat) := by push_cast; rfl
  rw [e2]
  exact Rat.mul_le_mul_of_nonneg_right h3 (Rat.le_of_lt hp)
theorem odd_le {A : Int} {Q : Nat} {k l : Int} (hl : k + 1 ≤ l) (h : ((2 * Q + 1 : Nat) : Rat) * 2 ^ k ≤ (A : Rat) * 2 ^ l) : ((2 * Q + 2 : Nat) : Rat) * 2 ^ k ≤ (A : Rat) * 2 ^ l := by
  obtain ⟨n, rfl⟩ : ∃ n : Nat, l = n + k := ⟨(l - k).toNat, by omega⟩
  have hp := p2_pos k
  rw [p2_add, ← Rat.mul_assoc, p2_int] at *
  have h1 := Rat.le_of_mul_le_mul_right h hp
  rw [← Rat.intCast_mul] at h1 ⊢
  have e : ((2 * Q + 1 : Nat) : Rat) = ((2 * (Q : Int) + 1 : Int) : Rat) := by push_cast; rfl
  rw [e] at h1
  have h2 := int_even_ge (by omega) (Rat.intCast_le_intCast.1 h1)
  have h3 := Rat.intCast_le_intCast.2 h2
  have e2 : ((2 * Q + 2 : Nat) : Rat) = ((2 * (Q : Int) + 2 : Int) : Rat) := by push_cast; rfl
  rw [e2]
  exact Rat.mul_le_mul_of_nonneg_right h3 (Rat.le_of_lt hp)

theorem last_ge {f : Format} {t : Rat} {L last k : Int} {N : Nat} (hN : 2 ^ (f.fractionBits + 2) ≤ N) (ht : (N : Rat) * 2 ^ k ≤ t) (hl : Lead t L) (hlast : last = max (L - f.fractionBits) f.leastPlace) : k + 2 ≤ last := by
  have h1 : (2 : Rat) ^ (((f.fractionBits + 2 : Nat) : Int)) * 2 ^ k ≤ (N : Rat) * 2 ^ k := by
    rw [p2_nat]; exact Rat.mul_le_mul_of_nonneg_right (Rat.natCast_le_natCast.2 hN) (Rat.le_of_lt (p2_pos k))
  rw [← p2_add] at h1
  have h2 := p2_lt_inv (show (2 : Rat) ^ (((f.fractionBits + 2 : Nat) : Int) + k) < 2 ^ (L + 1) by have := hl.2; grind)
  omega

theorem half_place (c : Rat) (last : Int) : c * 2 ^ last = 2 * c * 2 ^ (last - 1) := by
  have : (2 : Rat) ^ last = 2 * 2 ^ (last - 1) := by rw [← p2_succ]; congr 1; omega
  rw [this]; grind

theorem rne_parts {x : Rat} {last : Int} {c : Nat} (h : Rne (x * 2 ^ (-last)) c) : ((2 * (c : Int) - 1 : Int) : Rat) * 2 ^ (last - 1) ≤ x ∧ x ≤ ((2 * (c : Int) + 1 : Int) : Rat) * 2 ^ (last - 1) := by
  have hp := p2_pos last
  have e1 : x * 2 ^ (-last) * 2 ^ last = x := by rw [Rat.mul_assoc, p2_neg_mul, Rat.mul_one]
  have e2 : (2 : Rat) ^ last = 2 * 2 ^ (last - 1) := by rw [← p2_succ]; congr 1; omega
  have m1 := Rat.mul_le_mul_of_nonneg_right h.1 (Rat.le_of_lt hp)
  have m2 := Rat.mul_le_mul_of_nonneg_right h.2.1 (Rat.le_of_lt hp)
  have c1 : ((2 * (c : Int) - 1 : Int) : Rat) = 2 * (c : Rat) - 1 := by push_cast; rfl
  have c2 : ((2 * (c : Int) + 1 : Int) : Rat) = 2 * (c : Rat) + 1 := by push_cast; rfl
  rw [c1, c2]
  generalize (2 : Rat) ^ last = P at *
  generalize (2 : Rat) ^ (-last) = M at *
  generalize (2 : Rat) ^ (last - 1) = H at *
  subst e2
  constructor <;> grind

theorem nearPos_sticky {f : Format} {Q : Nat} {k : Int} {v y : Rat} (hQ : 2 ^ (f.fractionBits + 1) ≤ Q) (h1 : ((2 * Q : Nat) : Rat) * 2 ^ k < v) (h2 : v < ((2 * Q + 2 : Nat) : Rat) * 2 ^ k)
    (h : NearPos f (((2 * Q + 1 : Nat) : Rat) * 2 ^ k) y) : NearPos f v y := by
  obtain ⟨L, last, c, hl, hlast, hr, hy⟩ := h
  have hk : k + 2 ≤ last := last_ge (N := 2 * Q + 1) (by rw [Nat.pow_succ]; omega) Rat.le_refl hl hlast
  have hkL : k + 1 ≤ L := by
    have h3 : (2 : Rat) ^ (1 : Int) * 2 ^ k ≤ ((2 * Q + 1 : Nat) : Rat) * 2 ^ k := by
      refine Rat.mul_le_mul_of_nonneg_right ?_ (Rat.le_of_lt (p2_pos k))
      have : 2 ≤ 2 * Q + 1 := by have := Nat.two_pow_pos (f.fractionBits + 1); omega
      have := Rat.natCast_le_natCast.2 this
      rw [p2_one]; exact this
    rw [← p2_add] at h3
    have := p2_lt_inv (show (2 : Rat) ^ (1 + k) < 2 ^ (L + 1) by have := hl.2; grind)
    omega
  have hv : Lead v L := by
    constructor
    · have := odd_ge (A := 1) (Q := Q) (l := L) hkL (by have := hl.1; simpa using this)
      have := (by simpa using this : (2 : Rat) ^ L ≤ ((2 * Q : Nat) : Rat) * 2 ^ k)
      grind
    · have := odd_le (A := 1) (Q := Q) (k := k) (l := L + 1) (by omega) (by have := hl.2; simpa using Rat.le_of_lt this)
      have := (by simpa using this : ((2 * Q + 2 : Nat) : Rat) * 2 ^ k ≤ (2 : Rat) ^ (L + 1))
      grind
  have hp := rne_parts hr
  have g1 := odd_ge (A := 2 * (c : Int) - 1) (l := last - 1) (by omega) hp.1
  have g2 := odd_le (A := 2 * (c : Int) + 1) (l := last - 1) (by omega) hp.2
  refine ⟨L, last, c, hv, hlast, ?_, hy⟩
  have hn := p2_pos (-last)
  have e2 : (2 : Rat) ^ (last - 1) * 2 ^ (-last) * 2 = 1 := by
    rw [← p2_add]; have : last - 1 + -last = -1 := by omega
    rw [this]; have := p2_neg_mul 1; rw [p2_one] at this; exact this
  have c1 : ((2 * (c : Int) - 1 : Int) : Rat) = 2 * (c : Rat) - 1 := by push_cast; rfl
  have c2 : ((2 * (c : Int) + 1 : Int) : Rat) = 2 * (c : Rat) + 1 := by push_cast; rfl
  rw [c1] at g1; rw [c2] at g2
  have s1 : (2 * (c : Rat) - 1) * 2 ^ (last - 1) < v := by grind
  have s2 : v < (2 * (c : Rat) + 1) * 2 ^ (last - 1) := by grind
  have t1 := Rat.mul_lt_mul_of_pos_right s1 hn
  have t2 := Rat.mul_lt_mul_of_pos_right s2 hn
  generalize (2 : Rat) ^ (-last) = M at *
  generalize (2 : Rat) ^ (last - 1) = H at *
  have u1 : 2 * (c : Rat) - 1 < 2 * (v * M) := by
    have : (2 * (c : Rat) - 1) * H * M * 2 = 2 * (c : Rat) - 1 := by
      have : (2 * (c : Rat) - 1) * H * M * 2 = (2 * (c : Rat) - 1) * (H * M * 2) := by grind
      rw [this, e2, Rat.mul_one]
    grind
  have u2 : 2 * (v * M) < 2 * (c : Rat) + 1 := by
    have : (2 * (c : Rat) + 1) * H * M * 2 = 2 * (c : Rat) + 1 := by
      have : (2 * (c : Rat) + 1) * H * M * 2 = (2 * (c : Rat) + 1) * (H * M * 2) := by grind
      rw [this, e2, Rat.mul_one]
    grind
  exact ⟨Rat.le_of_lt u1, Rat.le_of_lt u2, fun h => by rcases h with h | h <;> grind⟩

theorem div_pos_num {k : FloatKind} {m n : Nat} {i j : Int} (hm : m ≠ 0) (hn : n ≠ 0) (more : Nat) (hmore : more = k.format.fractionBits + 2 + n.log2 - m.log2) (st : Nat)
    (hst : st = ((m <<< more) % n != 0).toNat) {y : Rat} (h : NearPos k.format (((2 * ((m <<< more) / n) + st : Nat) : Rat) * 2 ^ (i - j - more - 1)) y) :
    NearPos k.format (((m : Rat) * 2 ^ i) / ((n : Rat) * 2 ^ j)) y := by
  have hnr : (0 : Rat) < (n : Rat) := Rat.natCast_pos.2 (by omega)
  have hdiv := Nat.div_add_mod (m <<< more) n
  have hlt := Nat.mod_lt (m <<< more) (show 0 < n by omega)
  have hbig : 2 ^ (k.format.fractionBits + 1) ≤ (m <<< more) / n := by
    rw [Nat.le_div_iff_mul_le (by omega)]
    have h1 : n < 2 ^ (n.log2 + 1) := Nat.lt_log2_self
    have h2 : 2 ^ m.log2 ≤ m := Nat.log2_self_le hm
    have h3 : 2 ^ (k.format.fractionBits + 1) * n ≤ 2 ^ (k.format.fractionBits + 1) * 2 ^ (n.log2 + 1) := Nat.mul_le_mul_left _ (by omega)
    rw [← Nat.pow_add] at h3
    have h4 : 2 ^ (k.format.fractionBits + 1 + (n.log2 + 1)) ≤ 2 ^ (m.log2 + more) := Nat.pow_le_pow_right (by decide) (by omega)
    have h5 : 2 ^ (m.log2 + more) ≤ m <<< more := by
      rw [Nat.pow_add, Nat.shiftLeft_eq]; exact Nat.mul_le_mul_right _ h2
    omega
  generalize hQ : (m <<< more) / n = Q at *
  generalize hR : (m <<< more) % n = R at *
  have hsh : ((m <<< more : Nat) : Rat) = (m : Rat) * 2 ^ (more : Int) := by rw [Nat.shiftLeft_eq, p2_nat]; push_cast; rfl
  -- the quotient, in units of 2^(i-j-more-1)
  have hval : ((m : Rat) * 2 ^ i) / ((n : Rat) * 2 ^ j) * (n : Rat) = 2 * ((m <<< more : Nat) : Rat) * 2 ^ (i - j - more - 1) := by
    rw [hsh]
    have hpj := p2_pos j
    have hne : (n : Rat) * 2 ^ j ≠ 0 := by have := Rat.mul_pos hnr hpj; grind
    have e1 : ((m : Rat) * 2 ^ i) / ((n : Rat) * 2 ^ j) * ((n : Rat) * 2 ^ j) = (m : Rat) * 2 ^ i := Rat.div_mul_cancel hne
    have e2 : (2 : Rat) ^ i = 2 * 2 ^ (more : Int) * 2 ^ (i - j - more - 1) * 2 ^ j := by
      rw [Rat.mul_assoc, ← p2_add, Rat.mul_assoc, ← p2_add, ← p2_succ]; congr 1; omega
    have e3 : (((m : Rat) * 2 ^ i) / ((n : Rat) * 2 ^ j) * (n : Rat)) * 2 ^ j = (2 * ((m : Rat) * 2 ^ (more : Int)) * 2 ^ (i - j - more - 1)) * 2 ^ j := by
      rw [Rat.mul_assoc, e1, e2]; grind
    have := rat_cancel hpj e3
    exact this
  generalize ((m : Rat) * 2 ^ i) / ((n : Rat) * 2 ^ j) = v at *
  generalize i - j - (more : Int) - 1 = K at *
  have hK := p2_pos K
  have hNR : ((m <<< more : Nat) : Rat) = (n : Rat) * (Q : Rat) + (R : Rat) := by rw [← hdiv]; push_cast; rfl
  rw [hNR] at hval
  by_cases hz : R = 0
  · have : st = 0 := by rw [hst, hz]; rfl
    subst this
    subst hz
    have e : v = ((2 * Q + 0 : Nat) : Rat) * 2 ^ K := by
      have : v * (n : Rat) = (((2 * Q + 0 : Nat) : Rat) * 2 ^ K) * (n : Rat) := by rw [hval]; push_cast; grind
      exact rat_cancel hnr this
    rw [e]; exact h
  · have : st = 1 := by
      rw [hst]
      have : (R != 0) = true := by simpa using hz
      rw [this]; rfl
    subst this
    refine nearPos_sticky hbig ?_ ?_ h
    · have hR0 : (0 : Rat) < (R : Rat) := Rat.natCast_pos.2 (by omega)
      have : ((2 * Q : Nat) : Rat) * 2 ^ K * (n : Rat) < v * (n : Rat) := by
        rw [hval]; push_cast
        have := Rat.mul_pos hR0 hK
        grind
      exact Rat.lt_of_mul_lt_mul_right this (Rat.le_of_lt hnr)
    · have hRn : (R : Rat) < (n : Rat) := Rat.natCast_lt_natCast.2 hlt
      have : v * (n : Rat) < ((2 * Q + 2 : Nat) : Rat) * 2 ^ K * (n : Rat) := by
        rw [hval]; push_cast
        have := Rat.mul_lt_mul_of_pos_right hRn hK
        grind
      exact Rat.lt_of_mul_lt_mul_right this (Rat.le_of_lt hnr)
end Go.Proofs.Ytjhicedblobjfaa
