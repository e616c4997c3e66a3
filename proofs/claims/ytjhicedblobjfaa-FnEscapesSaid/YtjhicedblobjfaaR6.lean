/- Quotients and square roots of finite floats. -/
import Derived.Test.YtjhicedblobjfaaR5
namespace Go.Proofs.Ytjhicedblobjfaa
open Ieee

theorem sg_div (s t : Bool) (x y : Rat) : sg (s ^^ t) (x / y) = sg s x / sg t y := by
  cases s <;> cases t <;> simp [sg] <;> grind

theorem div_num {k : FloatKind} {a b : Nat} {x y : Rat} (ha : NumK k a x) (hb : NumK k b y) (hy : y ≠ 0) (h1 : x / y < 2 ^ (top k.format - 1)) (h2 : -2 ^ (top k.format - 1) < x / y) :
    ∃ r z, fdiv k a b = some r ∧ NumK k r z ∧ Near k.format (x / y) z := by
  obtain ⟨s, m, i, ra, rfl⟩ := ha
  obtain ⟨t, n, j, rb, rfl⟩ := hb
  have hn : n ≠ 0 := by
    intro h; subst h; apply hy; cases t <;> simp [sg]
  have hq : Datum.quotient (k.format.fractionBits + 2) (.number s m i) (.number t n j) =
      some (.number (s ^^ t) (2 * ((m <<< (k.format.fractionBits + 2 + n.log2 - m.log2)) / n) + ((m <<< (k.format.fractionBits + 2 + n.log2 - m.log2)) % n != 0).toNat) (i - j - (k.format.fractionBits + 2 + n.log2 - m.log2 : Nat) - 1)) := by
    simp only [Datum.quotient, if_neg hn]
  generalize hmore : k.format.fractionBits + 2 + n.log2 - m.log2 = more at *
  have hfd : fdiv k a b = some (k.format.write (.number (s ^^ t) (2 * ((m <<< more) / n) + ((m <<< more) % n != 0).toNat) (i - j - more - 1))) := by
    simp [fdiv, Format.div, ra, rb, hq]
  rw [hfd]
  by_cases hm : m = 0
  · subst hm
    have e0 : sg s (((0 : Nat) : Rat) * 2 ^ i) / sg t ((n : Rat) * 2 ^ j) = 0 := by
      have : sg s (((0 : Nat) : Rat) * 2 ^ i) = 0 := by cases s <;> simp [sg]
      rw [this, Rat.div_def, Rat.zero_mul]
    have em : 2 * ((0 <<< more) / n) + ((0 <<< more) % n != 0).toNat = 0 := by simp
    rw [em, e0]
    obtain ⟨z, hz, hnz⟩ := write_num (fmt_ok k) (show sg (s ^^ t) (((0 : Nat) : Rat) * 2 ^ (i - j - (more : Int) - 1)) = 0 by cases s <;> cases t <;> simp [sg]) (p2_pos _) (by have := p2_pos (top k.format); grind)
    exact ⟨_, z, rfl, hz, hnz⟩
  · rw [← sg_div] at h1 h2 ⊢
    have hpos : (0 : Rat) < ((m : Rat) * 2 ^ i) / ((n : Rat) * 2 ^ j) := by
      rw [Rat.div_def]
      exact Rat.mul_pos (Rat.mul_pos (Rat.natCast_pos.2 (by omega)) (p2_pos _)) (Rat.inv_pos.2 (Rat.mul_pos (Rat.natCast_pos.2 (by omega)) (p2_pos _)))
    have hv := sg_lt h1 h2
    -- the written magnitude is at most twice the quotient
    have hdp := fun y => div_pos_num (k := k) (i := i) (j := j) (y := y) hm hn more hmore.symm _ rfl
    have hlt : ((2 * ((m <<< more) / n) + ((m <<< more) % n != 0).toNat : Nat) : Rat) * 2 ^ (i - j - (more : Int) - 1) < 2 ^ top k.format := by
      have hnr : (0 : Rat) < (n : Rat) := Rat.natCast_pos.2 (by omega)
      have hsh : ((m <<< more : Nat) : Rat) = (m : Rat) * 2 ^ (more : Int) := by rw [Nat.shiftLeft_eq, p2_nat]; push_cast; rfl
      have hval : ((m : Rat) * 2 ^ i) / ((n : Rat) * 2 ^ j) * (n : Rat) = 2 * ((m <<< more : Nat) : Rat) * 2 ^ (i - j - more - 1) := by
        rw [hsh]
        have hpj := p2_pos j
        have hne : (n : Rat) * 2 ^ j ≠ 0 := by have := Rat.mul_pos hnr hpj; grind
        have e1 : ((m : Rat) * 2 ^ i) / ((n : Rat) * 2 ^ j) * ((n : Rat) * 2 ^ j) = (m : Rat) * 2 ^ i := Rat.div_mul_cancel hne
        have e2 : (2 : Rat) ^ i = 2 * 2 ^ (more : Int) * 2 ^ (i - j - more - 1) * 2 ^ j := by
          rw [Rat.mul_assoc, ← p2_add, Rat.mul_assoc, ← p2_add, ← p2_succ]; congr 1; omega
        have e3 : (((m : Rat) * 2 ^ i) / ((n : Rat) * 2 ^ j) * (n : Rat)) * 2 ^ j = (2 * ((m : Rat) * 2 ^ (more : Int)) * 2 ^ (i - j - more - 1)) * 2 ^ j := by
          rw [Rat.mul_assoc, e1, e2]; grind
        exact rat_cancel hpj e3
      have hle : 2 * ((m <<< more) / n) + ((m <<< more) % n != 0).toNat ≤ 4 * ((m <<< more) / n) + 1 := by
        have : ((m <<< more) % n != 0).toNat ≤ 1 := Bool.toNat_le _
        omega
      have hQ1 : 1 ≤ (m <<< more) / n := by
        rw [Nat.le_div_iff_mul_le (by omega)]
        have h3 : n < 2 ^ (n.log2 + 1) := Nat.lt_log2_self
        have h4 : 2 ^ m.log2 ≤ m := Nat.log2_self_le hm
        have h5 : 2 ^ (n.log2 + 1) ≤ 2 ^ (m.log2 + more) := Nat.pow_le_pow_right (by decide) (by omega)
        have h6 : 2 ^ (m.log2 + more) ≤ m <<< more := by
          rw [Nat.pow_add, Nat.shiftLeft_eq]; exact Nat.mul_le_mul_right _ h4
        omega
      have hle2 : (2 * ((m <<< more) / n) + ((m <<< more) % n != 0).toNat) * n ≤ 4 * (m <<< more) := by
        have : ((m <<< more) % n != 0).toNat ≤ 1 := Bool.toNat_le _
        have h7 : 2 * ((m <<< more) / n) + ((m <<< more) % n != 0).toNat ≤ 4 * ((m <<< more) / n) := by omega
        have h8 := Nat.mul_le_mul_right n h7
        have h9 := Nat.div_mul_le_self (m <<< more) n
        rw [Nat.mul_assoc] at h8
        omega
      generalize 2 * ((m <<< more) / n) + ((m <<< more) % n != 0).toNat = T at *
      generalize ((m : Rat) * 2 ^ i) / ((n : Rat) * 2 ^ j) = v at *
      generalize i - j - (more : Int) - 1 = K at *
      have hK := p2_pos K
      have g1 : (T : Rat) * (n : Rat) ≤ 4 * ((m <<< more : Nat) : Rat) := by
        have := Rat.natCast_le_natCast.2 hle2
        push_cast at this; exact this
      have g2 : (T : Rat) * 2 ^ K * (n : Rat) ≤ (2 * v) * (n : Rat) := by
        have := Rat.mul_le_mul_of_nonneg_right g1 (Rat.le_of_lt hK)
        grind
      have g3 := Rat.le_of_mul_le_mul_right g2 hnr
      have g4 : (2 : Rat) ^ top k.format = 2 * 2 ^ (top k.format - 1) := by rw [← p2_succ]; congr 1; omega
      grind
    obtain ⟨z, hz, hnz⟩ := nearest_near k.format (fmt_ok k) (s ^^ t) _ _ hlt
    refine ⟨_, z, rfl, hz, ?_⟩
    have hT0 : (0 : Rat) < ((2 * ((m <<< more) / n) + ((m <<< more) % n != 0).toNat : Nat) : Rat) * 2 ^ (i - j - (more : Int) - 1) := by
      refine Rat.mul_pos (Rat.natCast_pos.2 ?_) (p2_pos _)
      by_cases h : (m <<< more) / n = 0
      · have h9 := Nat.div_add_mod (m <<< more) n
        have h10 : m <<< more ≠ 0 := by rw [Nat.shiftLeft_eq]; exact Nat.mul_ne_zero hm (Nat.pos_iff_ne_zero.1 (Nat.two_pow_pos _))
        rw [h] at h9
        have : (m <<< more) % n ≠ 0 := by omega
        have : ((m <<< more) % n != 0) = true := by simpa using this
        rw [this]; simp
      · omega
    generalize ((2 * ((m <<< more) / n) + ((m <<< more) % n != 0).toNat : Nat) : Rat) * 2 ^ (i - j - (more : Int) - 1) = T at *
    cases hst : (s ^^ t)
    · rw [hst] at hnz
      simp only [sg, Bool.false_eq_true, if_false] at hnz ⊢
      rcases hnz with ⟨h, _⟩ | ⟨_, h⟩ | ⟨h, _⟩
      · grind
      · exact Or.inr (Or.inl ⟨hpos, hdp _ h⟩)
      · grind
    · rw [hst] at hnz
      simp only [sg, if_true] at hnz ⊢
      rcases hnz with ⟨h, _⟩ | ⟨h, _⟩ | ⟨_, h⟩
      · grind
      · grind
      · rw [Rat.neg_neg] at h
        refine Or.inr (Or.inr ⟨by grind, ?_⟩)
        rw [Rat.neg_neg]; exact hdp _ h

/-! ### square roots -/
theorem rootFrom_spec (n : Nat) : ∀ (todo root : Nat), root * root ≤ n → n < (root + 2 ^ todo) * (root + 2 ^ todo) →
    Datum.rootFrom n todo root * Datum.rootFrom n todo root ≤ n ∧ n < (Datum.rootFrom n todo root + 1) * (Datum.rootFrom n todo root + 1)
  | 0, root, h1, h2 => by simpa [Datum.rootFrom] using ⟨h1, h2⟩
  | todo + 1, root, h1, h2 => by
    unfold Datum.rootFrom
    have e : 1 <<< todo = 2 ^ todo := Nat.one_shiftLeft todo
    have e2 : root + 2 ^ (todo + 1) = root + 2 ^ todo + 2 ^ todo := by rw [Nat.pow_succ]; omega
    simp only [e]
    by_cases h : (root + 2 ^ todo) * (root + 2 ^ todo) ≤ n
    · rw [if_pos h]
      exact rootFrom_spec n todo _ h (by rw [← e2]; exact h2)
    · rw [if_neg h]
      exact rootFrom_spec n todo _ h1 (by omega)

/-- y is the 64-bit float nearest to the root of x > 0 -/
def NearRoot (x y : Rat) : Prop :=
  ∃ (last : Int) (c : Nat), y = (c : Rat) * 2 ^ last ∧ 2 ^ 52 ≤ c ∧ c ≤ 2 ^ 53 ∧ 2 ^ (last + 52) * 2 ^ (last + 52) ≤ x ∧ x < 2 ^ (last + 53) * 2 ^ (last + 53) ∧
    ((2 * (c : Rat) - 1) * 2 ^ (last - 1)) * ((2 * (c : Rat) - 1) * 2 ^ (last - 1)) ≤ x ∧ x ≤ ((2 * (c : Rat) + 1) * 2 ^ (last - 1)) * ((2 * (c : Rat) + 1) * 2 ^ (last - 1))

theorem sq_le {a b : Rat} (h0 : 0 ≤ a) (h : a ≤ b) : a * a ≤ b * b := by
  have h1 := Rat.mul_le_mul_of_nonneg_left h h0
  have h2 := Rat.mul_le_mul_of_nonneg_right h (show 0 ≤ b by grind)
  grind
theorem sq_lt {a b : Rat} (h0 : 0 ≤ a) (h : a < b) : a * a < b * b := by
  have h1 := Rat.mul_le_mul_of_nonneg_left (Rat.le_of_lt h) h0
  have h2 := Rat.mul_lt_mul_of_pos_right h (show 0 < b by grind)
  grind
theorem le_of_sq {a b : Rat} (hb : 0 ≤ b) (h : a * a ≤ b * b) : a ≤ b := by
  apply Classical.byContradiction; intro hn
  have := sq_lt hb (show b < a by grind)
  grind

theorem read64_parts {b : Nat} {s : Bool} {m : Nat} {e : Int} (hr : FloatKind.f64.format.read b = .number s m e) : m < 2 ^ 53 ∧ -1074 ≤ e ∧ e ≤ 971 := by
  have hB : FloatKind.f64.format.binade = 4503599627370496 := rfl
  have hI : FloatKind.f64.format.infRung = 9218868437227405312 := rfl
  have hlp : FloatKind.f64.format.leastPlace = -1074 := rfl
  unfold Format.read at hr
  simp only at hr
  generalize b % FloatKind.f64.format.signWeight = R at hr
  split at hr
  · rename_i h; injection hr with a b c
    rw [hB] at h; omega
  · split at hr
    · rename_i h1 h2; injection hr with a b c
      have := Nat.mod_lt R (show 0 < FloatKind.f64.format.binade by decide)
      have h3 : R / FloatKind.f64.format.binade ≤ 2046 := by
        rw [hB]; rw [hI] at h2; omega
      omega
    · split at hr <;> cases hr

theorem p2_sq (a : Int) : (2 : Rat) ^ a * 2 ^ a = 2 ^ (2 * a) := by rw [← p2_add]; congr 1; omega

theorem sqrt_num {a : Nat} {x : Rat} (ha : NumK .f64 a x) (hx : 0 ≤ x) :
    ∃ r y, fsqrt a = some r ∧ NumK .f64 r y ∧ ((x = 0 ∧ y = 0) ∨ (0 < x ∧ 0 < y ∧ NearRoot x y)) := by
  obtain ⟨s, m, i, ra, rfl⟩ := ha
  have hparts := read64_parts ra
  by_cases hm : m = 0
  · subst hm
    obtain ⟨y, hy, hn⟩ := nearest_near FloatKind.f64.format (fmt_ok .f64) s 0 i (by rw [show ((0 : Nat) : Rat) = 0 from rfl, Rat.zero_mul]; exact p2_pos _)
    have e0 : sg s (((0 : Nat) : Rat) * 2 ^ i) = 0 := by cases s <;> simp [sg]
    rw [e0] at hn ⊢
    have hrep : Rep FloatKind.f64.format 0 := ⟨false, 0, 0, by simp [sg], Nat.zero_le _, by decide⟩
    refine ⟨_, y, by simp only [fsqrt, Format.sqrt, ra, Datum.root, if_true, Option.map]; rfl, hy, Or.inl ⟨rfl, near_exact hn hrep⟩⟩
  · have hmr : (0 : Rat) < (m : Rat) * 2 ^ i := Rat.mul_pos (Rat.natCast_pos.2 (by omega)) (p2_pos _)
    have hs : s = false := by
      cases s
      · rfl
      · simp only [sg, if_true] at hx; grind
    subst hs
    have hxe : sg false ((m : Rat) * 2 ^ i) = (m : Rat) * 2 ^ i := rfl
    rw [hxe] at hx ⊢
    obtain ⟨more, hmore, hev⟩ : ∃ more : Nat, (2 * (52 + 2) - m.log2 + ((i - (2 * (52 + 2) - m.log2 : Nat)) % 2).toNat = more) ∧ (i - more) % 2 = 0 := ⟨_, rfl, by omega⟩
    have hroot : Datum.root (FloatKind.f64.format.fractionBits + 2) (.number false m i) =
        some (.number false (2 * Datum.rootFrom (m <<< more) ((m <<< more).log2 / 2 + 1) 0 + (Datum.rootFrom (m <<< more) ((m <<< more).log2 / 2 + 1) 0 * Datum.rootFrom (m <<< more) ((m <<< more).log2 / 2 + 1) 0 != m <<< more).toNat) ((i - more) / 2 - 1)) := by
      have hfb : FloatKind.f64.format.fractionBits = 52 := rfl
      simp only [Datum.root, if_neg hm, Bool.false_eq_true, if_false, hfb]
      rw [hmore]
    obtain ⟨K, hK⟩ : ∃ K, (i - (more : Int)) / 2 - 1 = K := ⟨_, rfl⟩
    have hiK : i - more = (K + 1) + (K + 1) := by omega
    generalize hN : m <<< more = N at *
    have hNle : N < 2 ^ (N.log2 + 1) := Nat.lt_log2_self
    have hspec := rootFrom_spec N (N.log2 / 2 + 1) 0 (by simp) (by
      rw [Nat.zero_add, ← Nat.pow_add]
      exact Nat.lt_of_lt_of_le hNle (Nat.pow_le_pow_right (by decide) (by omega)))
    generalize Datum.rootFrom N (N.log2 / 2 + 1) 0 = W at *
    have hlog : m.log2 < 53 := (Nat.log2_lt hm).2 hparts.1
    have hNbig : 2 ^ 108 ≤ N := by
      have h4 : 2 ^ m.log2 ≤ m := Nat.log2_self_le hm
      rw [← hN, Nat.shiftLeft_eq]
      have h6 : 2 ^ (m.log2 + more) ≤ m * 2 ^ more := by
        rw [Nat.pow_add]; exact Nat.mul_le_mul_right _ h4
      have h7 : 2 ^ 108 ≤ 2 ^ (m.log2 + more) := Nat.pow_le_pow_right (by decide) (by omega)
      omega
    have hW : 2 ^ 54 ≤ W := by
      apply Classical.byContradiction; intro h
      have h8 : (W + 1) * (W + 1) ≤ 2 ^ 54 * 2 ^ 54 := Nat.mul_le_mul (by omega) (by omega)
      rw [← Nat.pow_add] at h8
      omega
    have hxN : (m : Rat) * 2 ^ i = (N : Rat) * (2 ^ (K + 1) * 2 ^ (K + 1)) := by
      have hsh : (N : Rat) = (m : Rat) * 2 ^ (more : Int) := by rw [← hN, Nat.shiftLeft_eq, p2_nat]; push_cast; rfl
      rw [hsh, Rat.mul_assoc, ← p2_add, ← p2_add]; congr 2; omega
    have hK1 : (2 : Rat) ^ (K + 1) = 2 * 2 ^ K := p2_succ K
    have hKp := p2_pos K
    have q1 : (W : Rat) * (W : Rat) ≤ (N : Rat) := by have := Rat.natCast_le_natCast.2 hspec.1; push_cast at this; exact this
    have q2 : (N : Rat) < ((W : Rat) + 1) * ((W : Rat) + 1) := by have := Rat.natCast_lt_natCast.2 hspec.2; push_cast at this; exact this
    have hxlt : (m : Rat) * 2 ^ i < 2 ^ (1024 : Int) := by
      have g1 : (m : Rat) < 2 ^ (53 : Int) := by
        have e : (2 : Rat) ^ (53 : Int) = ((2 ^ 53 : Nat) : Rat) := p2_nat 53
        rw [e]; exact Rat.natCast_lt_natCast.2 hparts.1
      have g2 : (2 : Rat) ^ i ≤ 2 ^ (971 : Int) := p2_mono hparts.2.2
      have g3 : (m : Rat) * 2 ^ i < 2 ^ (53 : Int) * 2 ^ i := Rat.mul_lt_mul_of_pos_right g1 (p2_pos i)
      have g4 : (2 : Rat) ^ (53 : Int) * 2 ^ i ≤ 2 ^ (53 : Int) * 2 ^ (971 : Int) := Rat.mul_le_mul_of_nonneg_left g2 (Rat.le_of_lt (p2_pos 53))
      rw [← p2_add 53 971] at g4
      grind
    generalize hst : (W * W != N).toNat = st at *
    have hst1 : st ≤ 1 := by rw [← hst]; exact Bool.toNat_le _
    -- squares
    have lowW : ((2 * W : Nat) : Rat) * 2 ^ K * (((2 * W : Nat) : Rat) * 2 ^ K) ≤ (m : Rat) * 2 ^ i := by
      rw [hxN, hK1]
      have := Rat.mul_le_mul_of_nonneg_right q1 (Rat.le_of_lt (Rat.mul_pos hKp hKp))
      push_cast; grind
    have highW : (m : Rat) * 2 ^ i ≤ ((2 * W + 2 : Nat) : Rat) * 2 ^ K * (((2 * W + 2 : Nat) : Rat) * 2 ^ K) := by
      rw [hxN, hK1]
      have := Rat.mul_le_mul_of_nonneg_right (Rat.le_of_lt q2) (Rat.le_of_lt (Rat.mul_pos hKp hKp))
      push_cast; grind
    have htpos : (0 : Rat) < ((2 * W + st : Nat) : Rat) * 2 ^ K := Rat.mul_pos (Rat.natCast_pos.2 (by omega)) hKp
    have hW0 : (0 : Rat) ≤ (W : Rat) := Rat.natCast_nonneg
    have ht4 : ((2 * W + st : Nat) : Rat) * 2 ^ K ≤ 2 * (((2 * W : Nat) : Rat) * 2 ^ K) := by
      have : ((2 * W + st : Nat) : Rat) ≤ 2 * ((2 * W : Nat) : Rat) := by
        have : 2 * W + st ≤ 2 * (2 * W) := by omega
        have := Rat.natCast_le_natCast.2 this
        push_cast at this ⊢; exact this
      have := Rat.mul_le_mul_of_nonneg_right this (Rat.le_of_lt hKp)
      grind
    have hlt : ((2 * W + st : Nat) : Rat) * 2 ^ K < 2 ^ top FloatKind.f64.format := by
      have htop : top FloatKind.f64.format = 1023 := by decide
      rw [htop]
      apply Classical.byContradiction; intro hn
      have h1 : (2 : Rat) ^ (1023 : Int) ≤ ((2 * W + st : Nat) : Rat) * 2 ^ K := by grind
      have h2 : (2 : Rat) ^ (1022 : Int) ≤ ((2 * W : Nat) : Rat) * 2 ^ K := by
        have e : (2 : Rat) ^ (1023 : Int) = 2 * 2 ^ (1022 : Int) := p2_succ 1022
        grind
      have h3 := sq_le (Rat.le_of_lt (p2_pos 1022)) h2
      rw [p2_sq] at h3
      have h4 : (2 : Rat) ^ (1024 : Int) ≤ 2 ^ (2 * 1022 : Int) := p2_mono (by decide)
      grind
    obtain ⟨y, hy, hn⟩ := nearest_near FloatKind.f64.format (fmt_ok .f64) false _ _ hlt
    have hfs : fsqrt a = some (FloatKind.f64.format.nearest false (2 * W + st) K) := by
      simp only [fsqrt, Format.sqrt, ra, hroot, hK, Option.map]; rfl
    refine ⟨_, y, hfs, hy, Or.inr ?_⟩
    have hsgt : sg false (((2 * W + st : Nat) : Rat) * 2 ^ K) = ((2 * W + st : Nat) : Rat) * 2 ^ K := rfl
    rw [hsgt] at hn
    rcases hn with ⟨h, _⟩ | ⟨_, h⟩ | ⟨h, _⟩
    · grind
    · obtain ⟨L, last, c, hl, hlast, hr, rfl⟩ := h
      have hlk : K + 2 ≤ last := last_ge (N := 2 * W + st) (by have : FloatKind.f64.format.fractionBits = 52 := rfl; rw [this]; omega) Rat.le_refl hl hlast
      have hb := nearPos_bounds hl hlast hr
      have hfb : FloatKind.f64.format.fractionBits = 52 := rfl
      have hlp : FloatKind.f64.format.leastPlace = -1074 := rfl
      rw [hfb, hlp] at hb
      have hc : 2 ^ 52 ≤ c := by
        rcases hb.2 with h | h
        · omega
        · exact h
      have hp := rne_parts hr
      have c1 : ((2 * (c : Int) - 1 : Int) : Rat) = 2 * (c : Rat) - 1 := by push_cast; rfl
      have c2 : ((2 * (c : Int) + 1 : Int) : Rat) = 2 * (c : Rat) + 1 := by push_cast; rfl
      have hc1 : (1 : Rat) ≤ (c : Rat) := by
        have : 1 ≤ c := by omega
        exact Rat.natCast_le_natCast.2 this
      have hL : L = last + 52 := by rw [hfb, hlp] at hlast; omega
      have lowL : (2 : Rat) ^ (last + 52) ≤ ((2 * W : Nat) : Rat) * 2 ^ K := by
        by_cases h1 : st = 0
        · subst h1; rw [← hL]; exact hl.1
        · have : st = 1 := by omega
          subst this
          have := odd_ge (A := 1) (Q := W) (k := K) (l := last + 52) (by omega) (by rw [← hL]; have := hl.1; simpa using this)
          simpa using this
      have highL : (m : Rat) * 2 ^ i < 2 ^ (last + 53) * 2 ^ (last + 53) := by
        by_cases h1 : st = 0
        · subst h1
          have hWN : W * W = N := by
            cases h : (W * W != N) with
            | true => rw [h] at hst; cases hst
            | false => simpa using h
          have ex : (m : Rat) * 2 ^ i = ((2 * W : Nat) : Rat) * 2 ^ K * (((2 * W : Nat) : Rat) * 2 ^ K) := by
            rw [hxN, hK1, ← hWN]; push_cast; grind
          rw [ex]
          refine sq_lt (Rat.mul_nonneg Rat.natCast_nonneg (Rat.le_of_lt hKp)) ?_
          have := hl.2; rw [hL, show last + 52 + 1 = last + 53 by omega] at this; exact this
        · have : st = 1 := by omega
          subst this
          have g := odd_le (A := 1) (Q := W) (k := K) (l := last + 53) (by omega) (by have := hl.2; rw [hL, show last + 52 + 1 = last + 53 by omega] at this; simpa using Rat.le_of_lt this)
          have g' : ((2 * W + 2 : Nat) : Rat) * 2 ^ K ≤ 2 ^ (last + 53) := by simpa using g
          have h2 : (m : Rat) * 2 ^ i < ((2 * W + 2 : Nat) : Rat) * 2 ^ K * (((2 * W + 2 : Nat) : Rat) * 2 ^ K) := by
            rw [hxN, hK1]
            have := Rat.mul_lt_mul_of_pos_right q2 (Rat.mul_pos hKp hKp)
            push_cast; grind
          have h3 := sq_le (Rat.mul_nonneg Rat.natCast_nonneg (Rat.le_of_lt hKp)) g'
          grind
      refine ⟨hmr, Rat.mul_pos (by grind) (p2_pos _), last, c, rfl, hc, hb.1, Rat.le_trans (sq_le (Rat.le_of_lt (p2_pos _)) lowL) lowW, highL, ?_, ?_⟩
      · have g : (2 * (c : Rat) - 1) * 2 ^ (last - 1) ≤ ((2 * W : Nat) : Rat) * 2 ^ K := by
          rw [← c1]
          by_cases h1 : st = 0
          · subst h1; exact hp.1
          · have : st = 1 := by omega
            subst this
            exact odd_ge (by omega) hp.1
        exact Rat.le_trans (sq_le (Rat.mul_nonneg (by grind) (Rat.le_of_lt (p2_pos _))) g) lowW
      · by_cases h1 : st = 0
        · subst h1
          have hWN : W * W = N := by
            cases h : (W * W != N) with
            | true => rw [h] at hst; cases hst
            | false => simpa using h
          have ex : (m : Rat) * 2 ^ i = ((2 * W : Nat) : Rat) * 2 ^ K * (((2 * W : Nat) : Rat) * 2 ^ K) := by
            rw [hxN, hK1, ← hWN]; push_cast; grind
          rw [ex]
          have := hp.2
          rw [c2] at this
          exact sq_le (Rat.mul_nonneg Rat.natCast_nonneg (Rat.le_of_lt hKp)) this
        · have : st = 1 := by omega
          subst this
          have g := odd_le (A := 2 * (c : Int) + 1) (Q := W) (k := K) (l := last - 1) (by omega) hp.2
          rw [c2] at g
          exact Rat.le_trans highW (sq_le (Rat.mul_nonneg Rat.natCast_nonneg (Rat.le_of_lt hKp)) g)
    · grind
end Go.Proofs.Ytjhicedblobjfaa
