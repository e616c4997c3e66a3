/- The operations on floats over rationals: sums, products, order, sign, and conversions. -/
import Derived.Test.YtjhicedblobjfaaR3
namespace Go.Proofs.Ytjhicedblobjfaa
open Ieee

def fadd (k : FloatKind) (x y : Nat) : Option Nat := k.format.add x y
def fsub (k : FloatKind) (x y : Nat) : Option Nat := k.format.sub x y
def fmul (k : FloatKind) (x y : Nat) : Option Nat := k.format.mul x y
def fdiv (k : FloatKind) (x y : Nat) : Option Nat := k.format.div x y
def fsqrt (x : Nat) : Option Nat := FloatKind.f64.format.sqrt x
def widen (x : Nat) : Option Nat := floatToFloatBits .f32 x .f64
def narrow (x : Nat) : Option Nat := floatToFloatBits .f64 x .f32
/-- the bits of the absolute value -/
def absBits (b : Nat) : Nat := b % 2 ^ 63

/-- b are bits of a finite number v of the kind k -/
abbrev NumK (k : FloatKind) (b : Nat) (v : Rat) : Prop := Num k.format b v
theorem fmt_ok (k : FloatKind) : 2 ≤ k.format.exponentBits := by cases k <;> decide

theorem sg_mul (s t : Bool) (x y : Rat) : sg (s ^^ t) (x * y) = sg s x * sg t y := by
  cases s <;> cases t <;> simp [sg] <;> grind
theorem sg_lt {s : Bool} {x B : Rat} (h1 : sg s x < B) (h2 : -B < sg s x) : x < B := by
  cases s <;> simp [sg] at h1 h2 <;> grind

theorem signed_rat (s : Bool) (m u : Nat) : ((signed s m u : Int) : Rat) = sg s ((m : Rat) * 2 ^ (u : Int)) := by
  have e : ((m <<< u : Nat) : Rat) = (m : Rat) * 2 ^ (u : Int) := by rw [Nat.shiftLeft_eq, p2_nat]; push_cast; rfl
  cases s
  · simp only [signed, sg, Bool.false_eq_true, if_false]; rw [← e]; rfl
  · simp only [signed, sg, if_true]; rw [← e, Rat.intCast_neg]; rfl
theorem signed_val (s : Bool) (m : Nat) (i base : Int) (h : base ≤ i) : ((signed s m (i - base).toNat : Int) : Rat) * 2 ^ base = sg s ((m : Rat) * 2 ^ i) := by
  have e : (2 : Rat) ^ i = 2 ^ (((i - base).toNat : Nat) : Int) * 2 ^ base := by rw [← p2_add]; congr 1; omega
  rw [signed_rat, e]
  cases s <;> simp [sg] <;> grind

theorem natAbs_sg (t : Int) (σ : Bool) (p : Rat) (h : t ≠ 0 → σ = decide (t < 0)) : sg σ ((t.natAbs : Rat) * p) = (t : Rat) * p := by
  by_cases h0 : t = 0
  · subst h0; cases σ <;> simp [sg]
  · rw [h h0]
    by_cases hn : t < 0
    · simp only [hn, decide_true, sg, if_true]
      have : (t.natAbs : Rat) = -(t : Rat) := by
        have e : ((t.natAbs : Int) : Rat) = ((-t : Int) : Rat) := by congr 1; omega
        rw [Rat.intCast_neg] at e; exact e
      rw [this]; grind
    · have : (t.natAbs : Rat) = (t : Rat) := by
        have e : ((t.natAbs : Int) : Rat) = ((t : Int) : Rat) := by congr 1; omega
        exact e
      simp [hn, sg, this]

theorem sum_num {s t : Bool} {m n : Nat} {i j : Int} : ∃ σ M base, Datum.sum (.number s m i) (.number t n j) = some (.number σ M base) ∧ sg σ ((M : Rat) * 2 ^ base) = sg s ((m : Rat) * 2 ^ i) + sg t ((n : Rat) * 2 ^ j) := by
  refine ⟨_, _, _, rfl, ?_⟩
  rw [natAbs_sg]
  · rw [Rat.intCast_add, ← signed_val s m i (min i j) (by omega), ← signed_val t n j (min i j) (by omega)]; grind
  · intro h; rw [if_neg h]

theorem write_num {f : Format} (hf : 2 ≤ f.exponentBits) {s : Bool} {m : Nat} {e : Int} {x : Rat} (hv : sg s ((m : Rat) * 2 ^ e) = x) (h1 : x < 2 ^ top f) (h2 : -2 ^ top f < x) :
    ∃ y, Num f (f.write (.number s m e)) y ∧ Near f x y := by
  subst hv
  exact nearest_near f hf s m e (sg_lt h1 h2)

theorem add_num {k : FloatKind} {a b : Nat} {x y : Rat} (ha : NumK k a x) (hb : NumK k b y) (h1 : x + y < 2 ^ top k.format) (h2 : -2 ^ top k.format < x + y) :
    ∃ r z, fadd k a b = some r ∧ NumK k r z ∧ Near k.format (x + y) z := by
  obtain ⟨s, m, i, ra, rfl⟩ := ha
  obtain ⟨t, n, j, rb, rfl⟩ := hb
  obtain ⟨σ, M, base, hs, hv⟩ := @sum_num s t m n i j
  obtain ⟨z, hz, hn⟩ := write_num (fmt_ok k) hv h1 h2
  exact ⟨_, z, by simp [fadd, Format.add, ra, rb, hs], hz, hn⟩

theorem sub_num {k : FloatKind} {a b : Nat} {x y : Rat} (ha : NumK k a x) (hb : NumK k b y) (h1 : x - y < 2 ^ top k.format) (h2 : -2 ^ top k.format < x - y) :
    ∃ r z, fsub k a b = some r ∧ NumK k r z ∧ Near k.format (x - y) z := by
  obtain ⟨s, m, i, ra, rfl⟩ := ha
  obtain ⟨t, n, j, rb, rfl⟩ := hb
  obtain ⟨σ, M, base, hs, hv⟩ := @sum_num s (!t) m n i j
  rw [sg_neg, ← Rat.sub_eq_add_neg] at hv
  obtain ⟨z, hz, hn⟩ := write_num (fmt_ok k) hv h1 h2
  exact ⟨_, z, by simp [fsub, Format.sub, ra, rb, Datum.opposite, hs], hz, hn⟩

theorem mul_num {k : FloatKind} {a b : Nat} {x y : Rat} (ha : NumK k a x) (hb : NumK k b y) (h1 : x * y < 2 ^ top k.format) (h2 : -2 ^ top k.format < x * y) :
    ∃ r z, fmul k a b = some r ∧ NumK k r z ∧ Near k.format (x * y) z := by
  obtain ⟨s, m, i, ra, rfl⟩ := ha
  obtain ⟨t, n, j, rb, rfl⟩ := hb
  have hv : sg (s ^^ t) (((m * n : Nat) : Rat) * 2 ^ (i + j)) = sg s ((m : Rat) * 2 ^ i) * sg t ((n : Rat) * 2 ^ j) := by
    rw [← sg_mul, p2_add]; congr 1; push_cast; grind
  obtain ⟨z, hz, hn⟩ := write_num (fmt_ok k) hv h1 h2
  exact ⟨_, z, by simp [fmul, Format.mul, ra, rb, Datum.product], hz, hn⟩

/-- comparing -/
theorem order_num {k : FloatKind} {a b : Nat} {x y : Rat} (ha : NumK k a x) (hb : NumK k b y) :
    k.format.order a b = some (if x < y then .lt else if x = y then .eq else .gt) := by
  obtain ⟨s, m, i, ra, rfl⟩ := ha
  obtain ⟨t, n, j, rb, rfl⟩ := hb
  simp only [Format.order, ra, rb, Datum.order]
  have e1 := signed_val s m i (min i j) (by omega)
  have e2 := signed_val t n j (min i j) (by omega)
  generalize signed s m (i - min i j).toNat = X at *
  generalize signed t n (j - min i j).toNat = Y at *
  have hp := p2_pos (min i j)
  rw [← e1, ← e2]
  congr 1
  rcases Int.lt_trichotomy X Y with h | h | h
  · have : (X : Rat) * 2 ^ (min i j) < Y * 2 ^ (min i j) := Rat.mul_lt_mul_of_pos_right (Rat.intCast_lt_intCast.2 h) hp
    rw [if_pos this]; simp [compare, compareOfLessAndEq, h]
  · subst h; simp [compare, compareOfLessAndEq, Rat.lt_irrefl]
  · have : (Y : Rat) * 2 ^ (min i j) < X * 2 ^ (min i j) := Rat.mul_lt_mul_of_pos_right (Rat.intCast_lt_intCast.2 h) hp
    rw [if_neg (by grind), if_neg (by grind)]
    have h1 : ¬ X < Y := by omega
    have h2 : ¬ X = Y := by omega
    simp [compare, compareOfLessAndEq, h1, h2]

theorem signWeight_eq (k : FloatKind) : k.format.signWeight = 2 ^ (k.format.exponentBits + k.format.fractionBits) := rfl

theorem neg_num {k : FloatKind} {b : Nat} {v : Rat} (h : NumK k b v) : NumK k (Op.negFloat k b) (-v) := by
  obtain ⟨s, m, e, hr, rfl⟩ := h
  refine ⟨!s, m, e, ?_, (sg_neg s _).symm⟩
  unfold Op.negFloat
  generalize hw : k.format.exponentBits + k.format.fractionBits = W
  have hsw : k.format.signWeight = 2 ^ W := by rw [signWeight_eq, hw]
  have e1 : (b ^^^ 2 ^ W) % 2 ^ W = b % 2 ^ W := by
    apply Nat.eq_of_testBit_eq; intro i
    simp only [Nat.testBit_mod_two_pow, Nat.testBit_xor, Nat.testBit_two_pow]
    by_cases hi : i < W
    · have : ¬ W = i := by omega
      simp [hi, this]
    · simp [hi]
  have e2 : ((b ^^^ 2 ^ W) / 2 ^ W % 2 == 1) = !(b / 2 ^ W % 2 == 1) := by
    have h1 : ∀ x : Nat, (x / 2 ^ W % 2 == 1) = x.testBit W := fun x => by
      rw [Nat.testBit_eq_decide_div_mod_eq]; rfl
    rw [h1, h1, Nat.testBit_xor, Nat.testBit_two_pow_self]; simp
  unfold Format.read at hr ⊢
  rw [hsw] at hr ⊢
  simp only [e1, e2]
  simp only at hr
  split at hr
  · rename_i h; rw [if_pos h]; injection hr with a b c; rw [a, b, c]
  · rename_i h; rw [if_neg h]
    split at hr
    · rename_i h'; rw [if_pos h']; injection hr with a b c; rw [a, b, c]
    · split at hr <;> cases hr

theorem abs_num {b : Nat} {v : Rat} (h : NumK .f64 b v) : ∃ u, NumK .f64 (absBits b) u ∧ (0 ≤ v → u = v) ∧ (v ≤ 0 → u = -v) ∧ 0 ≤ u := by
  obtain ⟨s, m, e, hr, rfl⟩ := h
  have hm : (0 : Rat) ≤ (m : Rat) * 2 ^ e := Rat.mul_nonneg Rat.natCast_nonneg (Rat.le_of_lt (p2_pos e))
  refine ⟨(m : Rat) * 2 ^ e, ⟨false, m, e, ?_, rfl⟩, ?_, ?_, hm⟩
  · have hsw : FloatKind.f64.format.signWeight = 2 ^ 63 := rfl
    unfold absBits
    unfold Format.read at hr ⊢
    rw [hsw] at hr ⊢
    have e1 : b % 2 ^ 63 % 2 ^ 63 = b % 2 ^ 63 := Nat.mod_mod _ _
    have e2 : (b % 2 ^ 63 / 2 ^ 63 % 2 == 1) = false := by rw [Nat.div_eq_of_lt (Nat.mod_lt _ (Nat.two_pow_pos _))]; rfl
    simp only [e1, e2]
    simp only at hr
    split at hr
    · rename_i h; rw [if_pos h]; injection hr with a b c; rw [b, c]
    · rename_i h; rw [if_neg h]
      split at hr
      · rename_i h'; rw [if_pos h']; injection hr with a b c; rw [b, c]
      · split at hr <;> cases hr
  · intro h; cases s
    · rfl
    · simp only [sg, if_true] at h ⊢; grind
  · intro h; cases s
    · simp only [sg, Bool.false_eq_true, if_false] at h ⊢; grind
    · simp [sg]

theorem rep_widen {x : Rat} (h : Rep FloatKind.f32.format x) : Rep FloatKind.f64.format x := by
  obtain ⟨s, c, l, h1, h2, h3⟩ := h
  exact ⟨s, c, l, h1, Nat.le_trans h2 (by decide), Int.le_trans (by decide) h3⟩

theorem num_not_inf {f : Format} {b : Nat} {v : Rat} (h : Num f b v) : (f.read b).isInfinity = false := by
  obtain ⟨s, m, e, hr, _⟩ := h
  rw [hr]; rfl

/-- a finite 32-bit float is below 2^128 -/
theorem num32_lt {b : Nat} {v : Rat} (h : NumK .f32 b v) : v < 2 ^ (128 : Int) ∧ -2 ^ (128 : Int) < v := by
  obtain ⟨s, m, e, hr, rfl⟩ := h
  have key : (m : Rat) * 2 ^ e < 2 ^ (128 : Int) := by
    have hB : FloatKind.f32.format.binade = 8388608 := rfl
    have hI : FloatKind.f32.format.infRung = 2139095040 := rfl
    have hlp : FloatKind.f32.format.leastPlace = -149 := rfl
    unfold Format.read at hr
    simp only at hr
    generalize b % FloatKind.f32.format.signWeight = R at hr
    have fin : m < 16777216 → e ≤ 104 → (m : Rat) * 2 ^ e < 2 ^ (128 : Int) := by
      intro h1 h2
      have g1 : (m : Rat) < 2 ^ (24 : Int) := by
        have : ((m : Nat) : Rat) < ((16777216 : Nat) : Rat) := Rat.natCast_lt_natCast.2 h1
        have e : (2 : Rat) ^ (24 : Int) = ((16777216 : Nat) : Rat) := p2_nat 24
        rw [e]; exact this
      have g2 : (2 : Rat) ^ e ≤ 2 ^ (104 : Int) := p2_mono h2
      have g3 : (m : Rat) * 2 ^ e < 2 ^ (24 : Int) * 2 ^ e := Rat.mul_lt_mul_of_pos_right g1 (p2_pos e)
      have g4 : (2 : Rat) ^ (24 : Int) * 2 ^ e ≤ 2 ^ (24 : Int) * 2 ^ (104 : Int) := Rat.mul_le_mul_of_nonneg_left g2 (Rat.le_of_lt (p2_pos 24))
      rw [← p2_add 24 104] at g4
      grind
    split at hr
    · rename_i h; injection hr with a b c
      refine fin (by omega) (by omega)
    · split at hr
      · rename_i h1 h2; injection hr with a b c
        have := Nat.mod_lt R (show 0 < FloatKind.f32.format.binade by decide)
        have h3 : R / FloatKind.f32.format.binade ≤ 254 := by
          rw [hB]; rw [hI] at h2; omega
        refine fin (by omega) (by omega)
      · split at hr <;> cases hr
  have h0 : (0 : Rat) ≤ (m : Rat) * 2 ^ e := Rat.mul_nonneg Rat.natCast_nonneg (Rat.le_of_lt (p2_pos e))
  have := p2_pos 128
  cases s
  · simp only [sg, Bool.false_eq_true, if_false]; constructor <;> grind
  · simp only [sg, if_true]; constructor <;> grind

theorem widen_num {b : Nat} {v : Rat} (h : NumK .f32 b v) : ∃ r, widen b = some r ∧ NumK .f64 r v ∧ r < 2 ^ 64 := by
  have hrep := rep_widen (num_rep h)
  have hlt := num32_lt h
  obtain ⟨s, m, e, hr, rfl⟩ := h
  have ht : (2 : Rat) ^ (128 : Int) ≤ 2 ^ top FloatKind.f64.format := p2_mono (by decide)
  obtain ⟨y, hy, hn⟩ := write_num (fmt_ok .f64) (rfl : sg s ((m : Rat) * 2 ^ e) = _) (by grind) (by grind)
  have := near_exact hn hrep
  subst this
  have hinf := num_not_inf hy
  refine ⟨FloatKind.f64.encode (.number s m e), ?_, hy, FloatKind.f64.format.write_lt _⟩
  unfold widen floatToFloatBits
  rw [if_neg (by decide)]
  have hd : FloatKind.f32.decode b = .number s m e := hr
  rw [hd]
  simp only
  rw [if_neg]
  intro hc
  have : FloatKind.f64.decode (FloatKind.f64.encode (.number s m e)) = FloatKind.f64.format.read (FloatKind.f64.format.write (.number s m e)) := rfl
  rw [this, hinf] at hc; cases hc

theorem narrow_num {b : Nat} {v : Rat} (h : NumK .f64 b v) (h1 : v < 2 ^ (127 : Int)) (h2 : -2 ^ (127 : Int) < v) : ∃ r y, narrow b = some r ∧ NumK .f32 r y ∧ Near FloatKind.f32.format v y := by
  obtain ⟨s, m, e, hr, rfl⟩ := h
  obtain ⟨y, hy, hn⟩ := write_num (fmt_ok .f32) (rfl : sg s ((m : Rat) * 2 ^ e) = _) h1 h2
  have hinf := num_not_inf hy
  refine ⟨FloatKind.f32.encode (.number s m e), y, ?_, hy, hn⟩
  unfold narrow floatToFloatBits
  rw [if_neg (by decide)]
  have hd : FloatKind.f64.decode b = .number s m e := hr
  rw [hd]
  simp only
  rw [if_neg]
  intro hc
  have : FloatKind.f32.decode (FloatKind.f32.encode (.number s m e)) = FloatKind.f32.format.read (FloatKind.f32.format.write (.number s m e)) := rfl
  rw [this, hinf] at hc; cases hc

theorem ofInt_num {k : FloatKind} (n : Int) (h : n.natAbs ≤ 2 ^ 24) : NumK k (floatOfInt k n) (n : Rat) := by
  have hv : sg (decide (n < 0)) ((n.natAbs : Rat) * 2 ^ (0 : Int)) = (n : Rat) := by
    rw [natAbs_sg _ _ _ (fun _ => rfl), p2_zero, Rat.mul_one]
  have hle : (n.natAbs : Rat) * 2 ^ (0 : Int) < 2 ^ top k.format := by
    have h1 : (n.natAbs : Rat) ≤ 2 ^ (24 : Int) := by
      have e : (2 : Rat) ^ (24 : Int) = ((2 ^ 24 : Nat) : Rat) := p2_nat 24
      rw [e]; exact Rat.natCast_le_natCast.2 h
    rw [p2_zero, Rat.mul_one]
    have := p2_lt (show (24 : Int) < top k.format by cases k <;> decide)
    grind
  obtain ⟨y, hy, hn⟩ := nearest_near k.format (fmt_ok k) (decide (n < 0)) n.natAbs 0 hle
  rw [hv] at hn
  have hrep : Rep k.format (n : Rat) := ⟨_, _, _, hv.symm, Nat.le_trans h (by cases k <;> decide), by cases k <;> decide⟩
  have := near_exact hn hrep
  subst this
  exact hy
end Go.Proofs.Ytjhicedblobjfaa
