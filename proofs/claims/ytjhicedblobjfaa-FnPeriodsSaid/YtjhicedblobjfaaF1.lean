/- The number functions as partial functions of bits, and what they are over rationals. No program in sight. -/
import Derived.Test.YtjhicedblobjfaaMR
namespace Go.Proofs.Ytjhicedblobjfaa
open Ieee

theorem bindS {α β : Type} {o : Option α} {g : α → Option β} {r : β} (h : (o >>= g) = some r) : ∃ x, o = some x ∧ g x = some r := by
  cases o with
  | none => cases h
  | some x => exact ⟨x, rfl, h⟩

def le32 (x y : Nat) : Bool := FloatKind.f32.format.order x y == some .lt || FloatKind.f32.format.order x y == some .eq
def powF (a b : Nat) : Option Nat := do
  let x ← widen a; let y ← widen b; let p ← fmul .f64 x x; let q ← fmul .f64 y y; fadd .f64 p q
def powerF (a b : Nat) : Option Nat := do let p ← powF a b; narrow p
def longF (a b : Nat) : Option Nat := do let p ← powF a b; let r ← fsqrt p; narrow r
def mulReF (x y z t : Nat) : Option Nat := do let p ← fmul .f64 x z; let q ← fmul .f64 y t; fsub .f64 p q
def mulImF (x y z t : Nat) : Option Nat := do let p ← fmul .f64 x t; let q ← fmul .f64 y z; fadd .f64 p q
def timesF (x y z t : Nat) : Option (Nat × Nat) := do let u ← mulReF x y z t; let v ← mulImF x y z t; pure (u, v)
def mulF (a b c d : Nat) : Option (Nat × Nat) := do
  let x ← widen a; let y ← widen b; let z ← widen c; let t ← widen d
  let u ← timesF x y z t; let r ← narrow u.1; let i ← narrow u.2; pure (r, i)
def scaleF (a b c : Nat) : Option (Nat × Nat) := do let x ← fmul .f32 a c; let y ← fmul .f32 b c; pure (x, y)
def addF (a b c d : Nat) : Option (Nat × Nat) := do let x ← fadd .f32 a c; let y ← fadd .f32 b d; pure (x, y)
def subF (a b c d : Nat) : Option (Nat × Nat) := do let x ← fsub .f32 a c; let y ← fsub .f32 b d; pure (x, y)
def sizeF (a : Nat) : Option Nat := do let x ← widen a; narrow (absBits x)
def rootNumF (a : Nat) : Option Nat := do let x ← widen a; let r ← fsqrt x; narrow r

/-- -B ≤ x ≤ B -/
def Ab (x B : Rat) : Prop := -B ≤ x ∧ x ≤ B
theorem ab_mono {x B C : Rat} (h : Ab x B) (k : B ≤ C) : Ab x C := ⟨by have := h.1; grind, by have := h.2; grind⟩
theorem ab_nonneg {x B : Rat} (h : Ab x B) : 0 ≤ B := by have := h.1; have := h.2; grind
theorem ab_add {x y B C : Rat} (h : Ab x B) (k : Ab y C) : Ab (x + y) (B + C) := ⟨by have := h.1; have := k.1; grind, by have := h.2; have := k.2; grind⟩
theorem ab_sub {x y B C : Rat} (h : Ab x B) (k : Ab y C) : Ab (x - y) (B + C) := ⟨by have := h.1; have := k.2; grind, by have := h.2; have := k.1; grind⟩
theorem ab_neg {x B : Rat} (h : Ab x B) : Ab (-x) B := ⟨by have := h.2; grind, by have := h.1; grind⟩
theorem ab_mul {x y B C : Rat} (h : Ab x B) (k : Ab y C) : Ab (x * y) (B * C) := by
  have hB := ab_nonneg h
  have hC := ab_nonneg k
  obtain ⟨h1, h2⟩ := h
  obtain ⟨k1, k2⟩ := k
  -- (B - x)(C + y) ≥ 0 and so on
  have e1 := Rat.mul_nonneg (show 0 ≤ B - x by grind) (show 0 ≤ C - y by grind)
  have e2 := Rat.mul_nonneg (show 0 ≤ B - x by grind) (show 0 ≤ C + y by grind)
  have e3 := Rat.mul_nonneg (show 0 ≤ B + x by grind) (show 0 ≤ C - y by grind)
  have e4 := Rat.mul_nonneg (show 0 ≤ B + x by grind) (show 0 ≤ C + y by grind)
  constructor <;> grind

theorem rep_p2 (k : FloatKind) {e : Int} (h : k.format.leastPlace ≤ e) : Rep k.format (2 ^ e) :=
  ⟨false, 1, e, by simp [sg], Nat.one_le_two_pow, h⟩
theorem rep_nat (k : FloatKind) {n : Nat} (h : n ≤ 2 ^ 24) : Rep k.format (n : Rat) :=
  ⟨false, n, 0, by simp [sg, p2_zero], Nat.le_trans h (by cases k <;> decide), by cases k <;> decide⟩
theorem rep_neg {f : Format} {x : Rat} (h : Rep f x) : Rep f (-x) := by
  obtain ⟨s, c, l, rfl, h1, h2⟩ := h
  exact ⟨!s, c, l, (sg_neg s _).symm, h1, h2⟩
theorem near_ab {f : Format} {x y B : Rat} (h : Near f x y) (hr : Rep f B) (hx : Ab x B) : Ab y B :=
  ⟨near_ge h (rep_neg hr) hx.1, near_le h hr hx.2⟩
theorem lit_p2 (n : Nat) : ((2 ^ n : Nat) : Rat) = 2 ^ (n : Int) := (p2_nat n).symm
theorem rep_mul32 {x y : Rat} (h : Rep FloatKind.f32.format x) (k : Rep FloatKind.f32.format y) : Rep FloatKind.f64.format (x * y) := by
  obtain ⟨s, c, l, rfl, h1, h2⟩ := h
  obtain ⟨t, d, m, rfl, k1, k2⟩ := k
  have e1 : FloatKind.f32.format.leastPlace = -149 := rfl
  have e2 : FloatKind.f64.format.leastPlace = -1074 := rfl
  refine ⟨s ^^ t, c * d, l + m, ?_, ?_, by omega⟩
  · rw [← sg_mul, p2_add]; congr 1; push_cast; grind
  · exact Nat.le_trans (Nat.mul_le_mul h1 k1) (by decide)

theorem topf (k : FloatKind) : (127 : Int) ≤ top k.format := by cases k <;> decide
theorem ab_top {x B : Rat} (k : FloatKind) (h : Ab x B) (hB : B < 2 ^ (126 : Int)) : x < 2 ^ top k.format ∧ -2 ^ top k.format < x := by
  have h1 := p2_lt (show (126 : Int) < top k.format by have := topf k; omega)
  have := h.1; have := h.2
  constructor <;> grind

/-- both parts are finite numbers -/
def CNum (a b : Nat) (x y : Rat) : Prop := NumK .f32 a x ∧ NumK .f32 b y

theorem mul64_exact {a b : Nat} {x y : Rat} (ha : NumK .f64 a x) (hb : NumK .f64 b y) (hx : Rep FloatKind.f32.format x) (hy : Rep FloatKind.f32.format y)
    {B : Rat} (h : Ab (x * y) B) (hB : B < 2 ^ (126 : Int)) : ∃ r, fmul .f64 a b = some r ∧ NumK .f64 r (x * y) := by
  have ht := ab_top .f64 h hB
  obtain ⟨r, z, h1, h2, h3⟩ := mul_num ha hb ht.1 ht.2
  have := near_exact h3 (rep_mul32 hx hy)
  subst this
  exact ⟨r, h1, h2⟩

theorem big_lt {B : Rat} (h : B ≤ 2 ^ (30 : Int)) (h0 : 0 ≤ B) : B * B + B * B < 2 ^ (126 : Int) := by
  have h1 := Rat.mul_le_mul_of_nonneg_left h h0
  have h2 := Rat.mul_le_mul_of_nonneg_right h (Rat.le_of_lt (p2_pos 30))
  rw [← p2_add] at h2
  have h3 := p2_lt (show (30 + 30 + 1 : Int) < 126 by decide)
  have h4 := p2_succ (30 + 30)
  grind

theorem timesF_num {a b c d : Nat} {x y z t B : Rat} (ha : NumK .f64 a x) (hb : NumK .f64 b y) (hc : NumK .f64 c z) (hd : NumK .f64 d t)
    (rx : Rep FloatKind.f32.format x) (ry : Rep FloatKind.f32.format y) (rz : Rep FloatKind.f32.format z) (rt : Rep FloatKind.f32.format t)
    (bx : Ab x B) (bY : Ab y B) (bz : Ab z B) (bt : Ab t B) (hB : B ≤ 2 ^ (30 : Int)) :
    ∃ r p q, timesF a b c d = some r ∧ NumK .f64 r.1 p ∧ NumK .f64 r.2 q ∧ Near FloatKind.f64.format (x * z - y * t) p ∧ Near FloatKind.f64.format (x * t + y * z) q := by
  have h0 := ab_nonneg bx
  have hbig := big_lt hB h0
  have hsq : 0 ≤ B * B := Rat.mul_nonneg h0 h0
  have hbig1 : B * B < 2 ^ (126 : Int) := by grind
  obtain ⟨r1, e1, n1⟩ := mul64_exact ha hc rx rz (ab_mul bx bz) hbig1
  obtain ⟨r2, e2, n2⟩ := mul64_exact hb hd ry rt (ab_mul bY bt) hbig1
  obtain ⟨r3, e3, n3⟩ := mul64_exact ha hd rx rt (ab_mul bx bt) hbig1
  obtain ⟨r4, e4, n4⟩ := mul64_exact hb hc ry rz (ab_mul bY bz) hbig1
  have t1 := ab_top .f64 (ab_sub (ab_mul bx bz) (ab_mul bY bt)) hbig
  have t2 := ab_top .f64 (ab_add (ab_mul bx bt) (ab_mul bY bz)) hbig
  obtain ⟨s1, p, f1, m1, k1⟩ := sub_num n1 n2 t1.1 t1.2
  obtain ⟨s2, q, f2, m2, k2⟩ := add_num n3 n4 t2.1 t2.2
  exact ⟨(s1, s2), p, q, by simp [timesF, mulReF, mulImF, e1, e2, e3, e4, f1, f2], m1, m2, k1, k2⟩

theorem narrow_ab {a : Nat} {x B : Rat} (h : NumK .f64 a x) (hx : Ab x B) (hB : B < 2 ^ (126 : Int)) : ∃ r y, narrow a = some r ∧ NumK .f32 r y ∧ Near FloatKind.f32.format x y := by
  have h1 := p2_lt (show (126 : Int) < 127 by decide)
  have := hx.1; have := hx.2
  exact narrow_num h (by grind) (by grind)

theorem mulF_num {a b c d : Nat} {x y z t B : Rat} (h1 : CNum a b x y) (h2 : CNum c d z t) (bx : Ab x B) (bY : Ab y B) (bz : Ab z B) (bt : Ab t B) (hB : B ≤ 2 ^ (30 : Int)) :
    ∃ r m n p q, mulF a b c d = some r ∧ CNum r.1 r.2 p q ∧ Near FloatKind.f64.format (x * z - y * t) m ∧ Near FloatKind.f64.format (x * t + y * z) n ∧
      Near FloatKind.f32.format m p ∧ Near FloatKind.f32.format n q := by
  obtain ⟨wa, ea, na, _⟩ := widen_num h1.1
  obtain ⟨wb, eb, nb, _⟩ := widen_num h1.2
  obtain ⟨wc, ec, nc, _⟩ := widen_num h2.1
  obtain ⟨wd, ed, nd, _⟩ := widen_num h2.2
  obtain ⟨r, p, q, e, n1, n2, k1, k2⟩ := timesF_num na nb nc nd (num_rep h1.1) (num_rep h1.2) (num_rep h2.1) (num_rep h2.2) bx bY bz bt hB
  have h0 := ab_nonneg bx
  have hbig := big_lt hB h0
  have hsq : 0 ≤ B * B := Rat.mul_nonneg h0 h0
  have hp61 : B * B + B * B ≤ 2 ^ (61 : Int) := by
    have h1 := Rat.mul_le_mul_of_nonneg_left hB h0
    have h2 := Rat.mul_le_mul_of_nonneg_right hB (Rat.le_of_lt (p2_pos 30))
    rw [← p2_add] at h2
    have h4 := p2_succ (30 + 30)
    have e : (2 : Rat) ^ (61 : Int) = 2 ^ (30 + 30 + 1 : Int) := rfl
    rw [e]
    grind
  have b1 := near_ab k1 (rep_p2 .f64 (e := 61) (by decide)) (ab_mono (ab_sub (ab_mul bx bz) (ab_mul bY bt)) hp61)
  have b2 := near_ab k2 (rep_p2 .f64 (e := 61) (by decide)) (ab_mono (ab_add (ab_mul bx bt) (ab_mul bY bz)) hp61)
  obtain ⟨u, m, f1, m1, j1⟩ := narrow_ab n1 b1 (p2_lt (by decide))
  obtain ⟨v, n, f2, m2, j2⟩ := narrow_ab n2 b2 (p2_lt (by decide))
  exact ⟨(u, v), p, q, m, n, by simp [mulF, ea, eb, ec, ed, e, f1, f2], ⟨m1, m2⟩, k1, k2, j1, j2⟩

theorem powF_num {a b : Nat} {x y B : Rat} (h : CNum a b x y) (bx : Ab x B) (bY : Ab y B) (hB : B ≤ 2 ^ (30 : Int)) :
    ∃ r p, powF a b = some r ∧ NumK .f64 r p ∧ Near FloatKind.f64.format (x * x + y * y) p ∧ Ab p (2 ^ (61 : Int)) ∧ 0 ≤ p := by
  obtain ⟨wa, ea, na, _⟩ := widen_num h.1
  obtain ⟨wb, eb, nb, _⟩ := widen_num h.2
  have h0 := ab_nonneg bx
  have hbig := big_lt hB h0
  have hsq : 0 ≤ B * B := Rat.mul_nonneg h0 h0
  have hbig1 : B * B < 2 ^ (126 : Int) := by grind
  obtain ⟨r1, e1, n1⟩ := mul64_exact na na (num_rep h.1) (num_rep h.1) (ab_mul bx bx) hbig1
  obtain ⟨r2, e2, n2⟩ := mul64_exact nb nb (num_rep h.2) (num_rep h.2) (ab_mul bY bY) hbig1
  have t2 := ab_top .f64 (ab_add (ab_mul bx bx) (ab_mul bY bY)) hbig
  obtain ⟨s2, q, f2, m2, k2⟩ := add_num n1 n2 t2.1 t2.2
  have hp61 : B * B + B * B ≤ 2 ^ (61 : Int) := by
    have h1 := Rat.mul_le_mul_of_nonneg_left hB h0
    have h2 := Rat.mul_le_mul_of_nonneg_right hB (Rat.le_of_lt (p2_pos 30))
    rw [← p2_add] at h2
    have h4 := p2_succ (30 + 30)
    have e : (2 : Rat) ^ (61 : Int) = 2 ^ (30 + 30 + 1 : Int) := rfl
    rw [e]
    grind
  have b2 := near_ab k2 (rep_p2 .f64 (e := 61) (by decide)) (ab_mono (ab_add (ab_mul bx bx) (ab_mul bY bY)) hp61)
  have hsx : 0 ≤ x * x := by rcases Rat.le_total (a := 0) (b := x) with h | h; exact Rat.mul_nonneg h h; have := Rat.mul_nonneg (show 0 ≤ -x by grind) (show 0 ≤ -x by grind); grind
  have hsy : 0 ≤ y * y := by rcases Rat.le_total (a := 0) (b := y) with h | h; exact Rat.mul_nonneg h h; have := Rat.mul_nonneg (show 0 ≤ -y by grind) (show 0 ≤ -y by grind); grind
  have hz : Rep FloatKind.f64.format 0 := rep_nat .f64 (n := 0) (by decide)
  exact ⟨s2, q, by simp [powF, ea, eb, e1, e2, f2], m2, k2, b2, near_ge k2 hz (by grind)⟩

theorem powerF_num {a b : Nat} {x y B : Rat} (h : CNum a b x y) (bx : Ab x B) (bY : Ab y B) (hB : B ≤ 2 ^ (30 : Int)) :
    ∃ r p q, powerF a b = some r ∧ NumK .f32 r q ∧ Near FloatKind.f64.format (x * x + y * y) p ∧ Near FloatKind.f32.format p q := by
  obtain ⟨r, p, e, n, k, b, _⟩ := powF_num h bx bY hB
  obtain ⟨u, m, f1, m1, j1⟩ := narrow_ab n b (p2_lt (by decide))
  exact ⟨u, p, m, by simp [powerF, e, f1], m1, k, j1⟩

theorem nearRoot_le {x y : Rat} (h : NearRoot x y) {B : Rat} (hB : 1 ≤ B) (hx : x ≤ B * B) : y ≤ 2 * B := by
  obtain ⟨last, c, rfl, c1, c2, _, _, h1, h2⟩ := h
  have hc : (2 : Rat) ^ (52 : Int) ≤ (c : Rat) := by rw [show (2 : Rat) ^ (52 : Int) = ((2 ^ 52 : Nat) : Rat) from p2_nat 52]; exact Rat.natCast_le_natCast.2 c1
  have h52 : (1 : Rat) ≤ 2 ^ (52 : Int) := one_le_p2_nat 52
  have hp := p2_pos (last - 1)
  have hl : (2 : Rat) ^ last = 2 * 2 ^ (last - 1) := by rw [← p2_succ]; congr 1; omega
  have h3 : (2 * (c : Rat) - 1) * 2 ^ (last - 1) ≤ B := le_of_sq (by grind) (Rat.le_trans h1 hx)
  have h4 : (c : Rat) * 2 ^ (last - 1) ≤ (2 * (c : Rat) - 1) * 2 ^ (last - 1) := Rat.mul_le_mul_of_nonneg_right (by grind) (Rat.le_of_lt hp)
  rw [hl]; grind

theorem sqrt_ab {a : Nat} {x : Rat} (h : NumK .f64 a x) (h0 : 0 ≤ x) (hx : Ab x (2 ^ (61 : Int))) :
    ∃ r s, fsqrt a = some r ∧ NumK .f64 r s ∧ 0 ≤ s ∧ ((x = 0 ∧ s = 0) ∨ (0 < x ∧ 0 < s ∧ NearRoot x s)) ∧ Ab s (2 ^ (62 : Int)) := by
  obtain ⟨r, s, e, n, hs⟩ := sqrt_num h h0
  have hs0 : 0 ≤ s := by rcases hs with ⟨_, h⟩ | ⟨_, h, _⟩ <;> grind
  refine ⟨r, s, e, n, hs0, hs, ?_⟩
  have h62 := p2_pos 62
  rcases hs with ⟨_, h⟩ | ⟨_, _, h⟩
  · constructor <;> grind
  · have h61 : (2 : Rat) ^ (61 : Int) ≤ 2 ^ (61 : Int) * 2 ^ (61 : Int) := by
      have h1 := one_le_p2_nat 61
      have h2 := Rat.mul_le_mul_of_nonneg_left h1 (Rat.le_of_lt (p2_pos 61))
      rw [Rat.mul_one] at h2; exact h2
    have := nearRoot_le h (one_le_p2_nat 61) (Rat.le_trans hx.2 h61)
    have e : (2 : Rat) ^ (62 : Int) = 2 * 2 ^ (61 : Int) := p2_succ 61
    constructor <;> grind

theorem longF_num {a b : Nat} {x y B : Rat} (h : CNum a b x y) (bx : Ab x B) (bY : Ab y B) (hB : B ≤ 2 ^ (30 : Int)) :
    ∃ r p s l, longF a b = some r ∧ NumK .f32 r l ∧ Near FloatKind.f64.format (x * x + y * y) p ∧ 0 ≤ p ∧ ((p = 0 ∧ s = 0) ∨ (0 < p ∧ 0 < s ∧ NearRoot p s)) ∧ Near FloatKind.f32.format s l ∧ 0 ≤ l := by
  obtain ⟨r, p, e, n, k, b, p0⟩ := powF_num h bx bY hB
  obtain ⟨q, s, f, m, s0, hs, sb⟩ := sqrt_ab n p0 b
  obtain ⟨u, l, f1, m1, j1⟩ := narrow_ab m sb (p2_lt (by decide))
  have hz : Rep FloatKind.f32.format 0 := rep_nat .f32 (n := 0) (by decide)
  exact ⟨u, p, s, l, by simp [longF, e, f, f1], m1, k, p0, hs, j1, near_ge j1 hz s0⟩

theorem rootNumF_num {a : Nat} {x : Rat} (h : NumK .f32 a x) (h0 : 0 ≤ x) (hx : x ≤ 2 ^ (61 : Int)) :
    ∃ r s l, rootNumF a = some r ∧ NumK .f32 r l ∧ ((x = 0 ∧ s = 0) ∨ (0 < x ∧ 0 < s ∧ NearRoot x s)) ∧ Near FloatKind.f32.format s l ∧ 0 ≤ l := by
  obtain ⟨w, ew, nw, _⟩ := widen_num h
  have h61 := p2_pos 61
  obtain ⟨q, s, f, m, s0, hs, sb⟩ := sqrt_ab nw h0 ⟨by grind, hx⟩
  obtain ⟨u, l, f1, m1, j1⟩ := narrow_ab m sb (p2_lt (by decide))
  have hz : Rep FloatKind.f32.format 0 := rep_nat .f32 (n := 0) (by decide)
  exact ⟨u, s, l, by simp [rootNumF, ew, f, f1], m1, hs, j1, near_ge j1 hz s0⟩

theorem addF_num {a b c d : Nat} {x y z t B : Rat} (h1 : CNum a b x y) (h2 : CNum c d z t) (bx : Ab (x + z) B) (bY : Ab (y + t) B) (hB : B < 2 ^ (126 : Int)) :
    ∃ r p q, addF a b c d = some r ∧ CNum r.1 r.2 p q ∧ Near FloatKind.f32.format (x + z) p ∧ Near FloatKind.f32.format (y + t) q := by
  have t1 := ab_top .f32 bx hB
  have t2 := ab_top .f32 bY hB
  obtain ⟨r, p, e, n, k⟩ := add_num h1.1 h2.1 t1.1 t1.2
  obtain ⟨s, q, f, m, j⟩ := add_num h1.2 h2.2 t2.1 t2.2
  exact ⟨(r, s), p, q, by simp [addF, e, f], ⟨n, m⟩, k, j⟩
theorem subF_num {a b c d : Nat} {x y z t B : Rat} (h1 : CNum a b x y) (h2 : CNum c d z t) (bx : Ab (x - z) B) (bY : Ab (y - t) B) (hB : B < 2 ^ (126 : Int)) :
    ∃ r p q, subF a b c d = some r ∧ CNum r.1 r.2 p q ∧ Near FloatKind.f32.format (x - z) p ∧ Near FloatKind.f32.format (y - t) q := by
  have t1 := ab_top .f32 bx hB
  have t2 := ab_top .f32 bY hB
  obtain ⟨r, p, e, n, k⟩ := sub_num h1.1 h2.1 t1.1 t1.2
  obtain ⟨s, q, f, m, j⟩ := sub_num h1.2 h2.2 t2.1 t2.2
  exact ⟨(r, s), p, q, by simp [subF, e, f], ⟨n, m⟩, k, j⟩
theorem scaleF_num {a b c : Nat} {x y z B : Rat} (h1 : CNum a b x y) (h2 : NumK .f32 c z) (bx : Ab (x * z) B) (bY : Ab (y * z) B) (hB : B < 2 ^ (126 : Int)) :
    ∃ r p q, scaleF a b c = some r ∧ CNum r.1 r.2 p q ∧ Near FloatKind.f32.format (x * z) p ∧ Near FloatKind.f32.format (y * z) q := by
  have t1 := ab_top .f32 bx hB
  have t2 := ab_top .f32 bY hB
  obtain ⟨r, p, e, n, k⟩ := mul_num h1.1 h2 t1.1 t1.2
  obtain ⟨s, q, f, m, j⟩ := mul_num h1.2 h2 t2.1 t2.2
  exact ⟨(r, s), p, q, by simp [scaleF, e, f], ⟨n, m⟩, k, j⟩

theorem sizeF_num {a : Nat} {x : Rat} (h : NumK .f32 a x) (hx : Ab x (2 ^ (61 : Int))) :
    ∃ r u, sizeF a = some r ∧ NumK .f32 r u ∧ (0 ≤ x → u = x) ∧ (x ≤ 0 → u = -x) ∧ 0 ≤ u := by
  obtain ⟨w, ew, nw, _⟩ := widen_num h
  obtain ⟨u, nu, h1, h2, h3⟩ := abs_num nw
  have hr := num_rep h
  have hu : Rep FloatKind.f32.format u := by
    rcases Rat.le_total (a := 0) (b := x) with h | h
    · rw [h1 h]; exact hr
    · rw [h2 h]; exact rep_neg hr
  have hab : Ab u (2 ^ (61 : Int)) := by
    rcases Rat.le_total (a := 0) (b := x) with h | h
    · rw [h1 h]; exact hx
    · rw [h2 h]; exact ab_neg hx
  obtain ⟨r, l, f1, m1, j1⟩ := narrow_ab nu hab (p2_lt (by decide))
  have := near_exact j1 hu
  subst this
  exact ⟨r, l, by simp [sizeF, ew, f1], m1, h1, h2, h3⟩

theorem le32_num {a b : Nat} {x y : Rat} (ha : NumK .f32 a x) (hb : NumK .f32 b y) : le32 a b = decide (x ≤ y) := by
  unfold le32
  rw [order_num ha hb]
  by_cases h1 : x < y
  · have : x ≤ y := Rat.le_of_lt h1
    simp [h1, this]
  · by_cases h2 : x = y
    · simp [h2, Rat.lt_irrefl, Rat.le_refl]
    · have : ¬ x ≤ y := by grind
      simp [h1, h2, this]
end Go.Proofs.Ytjhicedblobjfaa
