/- Small facts on floats for the walks: comparisons; values of literals; the number in a float slot. -/
import Derived.Test.YtjhicedblobjfaaF2
import Derived.KernelRfl
namespace Go.Proofs.Ytjhicedblobjfaa
open Ieee

section
variable {k : FloatKind} {a b : Nat} {x y : Rat}
theorem ord_ge (ha : NumK k a x) (hb : NumK k b y) (h : y ≤ x) : (k.format.order a b == some .gt || k.format.order a b == some .eq) = true := by
  rw [order_num ha hb]
  have h1 : ¬ x < y := by grind
  by_cases h2 : x = y <;> simp [h1, h2, Rat.lt_irrefl]
theorem ord_nge (ha : NumK k a x) (hb : NumK k b y) (h : x < y) : (k.format.order a b == some .gt || k.format.order a b == some .eq) = false := by
  rw [order_num ha hb]; simp [h]
theorem ord_le (ha : NumK k a x) (hb : NumK k b y) (h : x ≤ y) : (k.format.order a b == some .lt || k.format.order a b == some .eq) = true := by
  rw [order_num ha hb]
  by_cases h1 : x < y
  · simp [h1]
  · have h2 : x = y := by grind
    simp [h2, Rat.lt_irrefl]
theorem ord_nle (ha : NumK k a x) (hb : NumK k b y) (h : y < x) : (k.format.order a b == some .lt || k.format.order a b == some .eq) = false := by
  rw [order_num ha hb]
  have h1 : ¬ x < y := by grind
  have h2 : ¬ x = y := by grind
  simp [h1, h2]
theorem ord_lt (ha : NumK k a x) (hb : NumK k b y) (h : x < y) : (k.format.order a b == some .lt) = true := by
  rw [order_num ha hb]; simp [h]
theorem ord_nlt (ha : NumK k a x) (hb : NumK k b y) (h : y ≤ x) : (k.format.order a b == some .lt) = false := by
  rw [order_num ha hb]
  have h1 : ¬ x < y := by grind
  by_cases h2 : x = y <;> simp [h1, h2, Rat.lt_irrefl]
theorem ord_gt (ha : NumK k a x) (hb : NumK k b y) (h : y < x) : (k.format.order a b == some .gt) = true := by
  rw [order_num ha hb]
  have h1 : ¬ x < y := by grind
  have h2 : ¬ x = y := by grind
  simp [h1, h2]
theorem ord_ngt (ha : NumK k a x) (hb : NumK k b y) (h : x ≤ y) : (k.format.order a b == some .gt) = false := by
  rw [order_num ha hb]
  by_cases h1 : x < y
  · simp [h1]
  · have h2 : x = y := by grind
    simp [h2, Rat.lt_irrefl]
theorem ord_eq (ha : NumK k a x) (hb : NumK k b x) : (k.format.order a b == some .eq) = true := by
  rw [order_num ha hb]; simp [Rat.lt_irrefl]
theorem ord_ne (ha : NumK k a x) (hb : NumK k b y) (h : x ≠ y) : (k.format.order a b == some .eq) = false := by
  rw [order_num ha hb]
  by_cases h1 : x < y <;> simp [h1, h]
end

/-- the whole number in a slot that holds a 64-bit float -/
noncomputable def fint (v : Value) : Int := Classical.epsilon fun n : Int => ∃ b, v = .float .f64 b ∧ NumK .f64 b (n : Rat)
theorem fint_eq {b : Nat} {n : Int} (h : NumK .f64 b (n : Rat)) : fint (.float .f64 b) = n := by
  have hs : ∃ m : Int, ∃ c, Value.float .f64 b = .float .f64 c ∧ NumK .f64 c (m : Rat) := ⟨n, b, rfl, h⟩
  obtain ⟨c, hc, hm⟩ := Classical.epsilon_spec hs
  injection hc with _ hc
  subst hc
  exact Rat.intCast_inj.1 (num_unique hm h)

theorem l64_one : NumK .f64 4607182418800017408 1 := num_lit .f64 4607182418800017408 false 4503599627370496 (-52) 1 (by kernel_rfl) (by kernel_rfl)
theorem l64_two : NumK .f64 4611686018427387904 2 := num_lit .f64 4611686018427387904 false 4503599627370496 (-51) 2 (by kernel_rfl) (by kernel_rfl)
theorem l64_zero : NumK .f64 0 0 := num_lit .f64 0 false 0 (-1074) 0 (by kernel_rfl) (by kernel_rfl)
theorem l64_15 : NumK .f64 4609434218613702656 (3 / 2) := num_lit .f64 4609434218613702656 false 6755399441055744 (-52) (3 / 2) (by kernel_rfl) (by kernel_rfl)
theorem l64_075 : NumK .f64 4604930618986332160 (3 / 4) := num_lit .f64 4604930618986332160 false 6755399441055744 (-53) (3 / 4) (by kernel_rfl) (by kernel_rfl)
theorem l64_25 : NumK .f64 4627730092099895296 25 := num_lit .f64 4627730092099895296 false 7036874417766400 (-48) 25 (by kernel_rfl) (by kernel_rfl)
/-- the logarithm of two that the program uses -/
def lnTwo : Rat := 6243314768165359 / 9007199254740992
theorem l64_ln : NumK .f64 4604418534313441775 lnTwo := num_lit .f64 4604418534313441775 false 6243314768165359 (-53) lnTwo (by kernel_rfl) (by kernel_rfl)

/-- n / 2^l, l at most 30 -/
theorem rep_frac (k : FloatKind) {c d : Nat} {l : Nat} (s : Bool) (x : Rat) (hc : c ≤ 2 ^ 24) (hd : d = 2 ^ l) (hl : l ≤ 100) (hx : x * (d : Rat) = sg s (c : Rat)) : Rep k.format x := by
  refine ⟨s, c, -(l : Int), ?_, Nat.le_trans hc (by cases k <;> decide), by cases k <;> simp [FloatKind.format] <;> (have : (Ieee.single).leastPlace = -149 := rfl; have : (Ieee.double).leastPlace = -1074 := rfl; omega)⟩
  have h1 : x * (d : Rat) = x * 2 ^ (l : Int) := by rw [hd, p2_nat]
  rw [h1] at hx
  have h2 : x = x * 2 ^ (l : Int) * 2 ^ (-(l : Int)) := by rw [Rat.mul_assoc, Rat.mul_comm (2 ^ (l : Int)), p2_neg_mul, Rat.mul_one]
  rw [h2, hx]
  cases s <;> simp [sg]
  rw [Rat.neg_mul]
end Go.Proofs.Ytjhicedblobjfaa
