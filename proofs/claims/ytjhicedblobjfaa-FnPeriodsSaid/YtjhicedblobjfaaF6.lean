/- Walks backwards over rationals: the square of a root is near. -/
import Derived.Test.YtjhicedblobjfaaF5
namespace Go.Proofs.Ytjhicedblobjfaa
open Ieee

/-- l is the root of p as a 64-bit float, narrowed -/
def Root32 (p l : Rat) : Prop := ∃ s, ((p = 0 ∧ s = 0) ∨ (0 < p ∧ 0 < s ∧ NearRoot p s)) ∧ Near FloatKind.f32.format s l ∧ 0 ≤ l

theorem nearRoot_bd {x y : Rat} (hy : 0 < y) (h : NearRoot x y) : (y - y / 9007199254740992) * (y - y / 9007199254740992) ≤ x ∧ x ≤ (y + y / 9007199254740992) * (y + y / 9007199254740992) := by
  obtain ⟨last, c, rfl, c1, _, _, _, h1, h2⟩ := h
  have hp := p2_pos (last - 1)
  have hl : (2 : Rat) ^ last = 2 * 2 ^ (last - 1) := by rw [← p2_succ]; congr 1; omega
  have hc : (4503599627370496 : Rat) ≤ (c : Rat) := by
    have : 4503599627370496 ≤ c := c1
    exact Rat.natCast_le_natCast.2 this
  rw [hl] at hy ⊢
  generalize (2 : Rat) ^ (last - 1) = H at *
  have hH : H ≤ (c : Rat) * (2 * H) / 9007199254740992 := by
    have := Rat.mul_le_mul_of_nonneg_right hc (Rat.le_of_lt hp)
    grind
  have e1 : (2 * (c : Rat) - 1) * H = (c : Rat) * (2 * H) - H := by grind
  have e2 : (2 * (c : Rat) + 1) * H = (c : Rat) * (2 * H) + H := by grind
  rw [e1] at h1
  rw [e2] at h2
  generalize (c : Rat) * (2 * H) = y at *
  constructor
  · have := sq_le (show 0 ≤ y - y / 9007199254740992 by grind) (show y - y / 9007199254740992 ≤ y - H by grind)
    grind
  · have := sq_le (show 0 ≤ y + H by grind) (show y + H ≤ y + y / 9007199254740992 by grind)
    grind

theorem ue32 : ue FloatKind.f32.format = 1 / 16777216 := by decide +kernel
theorem et32 : et FloatKind.f32.format ≤ 1 / 1125899906842624 := by decide +kernel
theorem ue64 : ue FloatKind.f64.format = 1 / 9007199254740992 := by decide +kernel
theorem et64 : et FloatKind.f64.format ≤ 1 / 1267650600228229401496703205376 := by decide +kernel

/-- rounding to 32 bits -/
theorem near32_err {x y B : Rat} (h : Near FloatKind.f32.format x y) (hx : Ab x B) : Ab (y - x) (B / 16777216 + 1 / 1125899906842624) := by
  have := near_err h hx.2 hx.1
  have he := et32
  rw [ue32] at this
  constructor <;> grind
theorem near64_err {x y B : Rat} (h : Near FloatKind.f64.format x y) (hx : Ab x B) : Ab (y - x) (B / 9007199254740992 + 1 / 1267650600228229401496703205376) := by
  have := near_err h hx.2 hx.1
  have he := et64
  rw [ue64] at this
  constructor <;> grind

theorem root32_bd {p l S : Rat} (h : Root32 p l) (hS : 1 ≤ S) (hp : p ≤ S * S) : Ab (l * l - p) (S * S / 4194304) ∧ l ≤ 9 / 8 * S ∧ 0 ≤ l := by
  obtain ⟨s, hs, hn, l0⟩ := h
  have hSS : 1 ≤ S * S := by have := Rat.mul_le_mul_of_nonneg_left hS (show 0 ≤ S by grind); grind
  have s0 : 0 ≤ s := by rcases hs with ⟨_, h⟩ | ⟨_, h, _⟩ <;> grind
  have key : s ≤ 17 / 16 * S ∧ Ab (s * s - p) (S * S / 1099511627776) := by
    rcases hs with ⟨rfl, rfl⟩ | ⟨_, hs0, hr⟩
    · refine ⟨by grind, ?_, ?_⟩ <;> grind
    · have hb := nearRoot_bd hs0 hr
      have h1 : s - s / 9007199254740992 ≤ S := le_of_sq (by grind) (Rat.le_trans hb.1 hp)
      have h2 : s ≤ 17 / 16 * S := by grind
      have h3 := sq_le s0 h2
      refine ⟨h2, ?_, ?_⟩ <;> grind
  have hd := near32_err hn (B := 17 / 16 * S) ⟨by grind, key.1⟩
  have hd2 : Ab (l - s) (9 / 8 * S / 16777216) := ab_mono hd (by grind)
  have hm : Ab (l + s) (35 / 16 * S) := ⟨by grind, by have := hd2.2; grind⟩
  have hmul := ab_mul hd2 hm
  have e1 : (l - s) * (l + s) = l * l - s * s := by grind
  have e2 : 9 / 8 * S / 16777216 * (35 / 16 * S) = 315 / 128 * (S * S) / 16777216 := by grind
  rw [e1, e2] at hmul
  refine ⟨⟨?_, ?_⟩, ?_, l0⟩
  · have := hmul.1; have := key.2.1; grind
  · have := hmul.2; have := key.2.2; grind
  · have := hd2.2; grind

theorem sq_nonneg (x : Rat) : 0 ≤ x * x := by
  rcases Rat.le_total (a := 0) (b := x) with h | h
  · exact Rat.mul_nonneg h h
  · have := Rat.mul_nonneg (show 0 ≤ -x by grind) (show 0 ≤ -x by grind); grind
theorem rep_abs {f : Format} {x : Rat} (h : Rep f x) : Rep f (if x < 0 then -x else x) := by
  split
  · exact rep_neg h
  · exact h

/-- the length of a number with parts at most 9/2 -/
theorem long_bd {X Y p l : Rat} (rX : Rep FloatKind.f32.format X) (hX : Ab X (9 / 2)) (hY : Ab Y (9 / 2)) (hp : Near FloatKind.f64.format (X * X + Y * Y) p) (hl : Root32 p l) :
    Ab (l * l - (X * X + Y * Y)) (11 / 1000000) ∧ 0 ≤ l ∧ l ≤ 32 / 5 ∧ X - 1 / 1000000 ≤ l ∧ -X - 1 / 1000000 ≤ l := by
  have hXX := ab_mul hX hX
  have hYY := ab_mul hY hY
  have hs := ab_add hXX hYY
  have e1 : (9 / 2 * (9 / 2) + 9 / 2 * (9 / 2) : Rat) = 81 / 2 := by decide +kernel
  rw [e1] at hs
  have er := near64_err hp hs
  have hp42 : p ≤ 13 / 2 * (13 / 2) := by have := er.2; have := hs.2; grind
  obtain ⟨b1, b2, b3⟩ := root32_bd hl (by decide +kernel) hp42
  have hpX : X * X ≤ p := by
    have hr : Rep FloatKind.f64.format (X * X) := rep_mul32 rX rX
    exact near_ge hp hr (by have := sq_nonneg Y; grind)
  refine ⟨⟨?_, ?_⟩, b3, le_of_sq (by decide +kernel) (by have := b1.2; have := er.2; have := hs.2; grind), ?_⟩
  · have := b1.1; have := er.1; grind
  · have := b1.2; have := er.2; grind
  · -- l is not much less than |X|
    obtain ⟨s, hs', hn, _⟩ := hl
    have key : X ≤ s + s / 9007199254740992 ∧ -X ≤ s + s / 9007199254740992 ∧ 0 ≤ s ∧ s ≤ 8 := by
      rcases hs' with ⟨h0, rfl⟩ | ⟨_, hs0, hr⟩
      · have hX0 : X * X = 0 := by have := sq_nonneg X; grind
        rcases Rat.mul_eq_zero.1 hX0 with h | h <;> (subst h; refine ⟨by grind, by grind, by grind, by decide +kernel⟩)
      · have hb := nearRoot_bd hs0 hr
        have h1 : X ≤ s + s / 9007199254740992 := le_of_sq (by grind) (by have := hb.2; grind)
        have h2 : -X ≤ s + s / 9007199254740992 := le_of_sq (by grind) (by have := hb.2; grind)
        have h3 : s - s / 9007199254740992 ≤ 13 / 2 := le_of_sq (by decide +kernel) (Rat.le_trans hb.1 hp42)
        exact ⟨h1, h2, Rat.le_of_lt hs0, by grind⟩
    have hd := near32_err hn (B := 8) ⟨by grind, key.2.2.2⟩
    have := hd.1
    constructor <;> grind

/-- half of T, or 0 if that is less, and its root -/
theorem part_bd {T h r : Rat} (hT : T ≤ 23 / 2) (hT0 : -1 / 500000 ≤ T) {h' : Rat} (hn : Near FloatKind.f32.format (1 / 2 * T) h) (hh : (h < 0 ∧ h' = 0) ∨ (0 ≤ h ∧ h' = h)) (hr : Root32 h' r) :
    Ab (r * r - T / 2) (5 / 2000000) ∧ 0 ≤ r ∧ r ≤ 5 / 2 := by
  have he := near32_err hn (B := 6) ⟨by grind, by grind⟩
  have h6 : h' ≤ 12 / 5 * (12 / 5) := by have := he.2; rcases hh with ⟨_, rfl⟩ | ⟨_, rfl⟩ <;> grind
  have hd : Ab (h' - T / 2) (1 / 1000000) := by
    have := he.1; have := he.2
    rcases hh with ⟨_, rfl⟩ | ⟨_, rfl⟩ <;> constructor <;> grind
  obtain ⟨b1, b2, b3⟩ := root32_bd hr (by decide +kernel) h6
  refine ⟨⟨by have := b1.1; have := hd.1; grind, by have := b1.2; have := hd.2; grind⟩, b3, ?_⟩
  refine le_of_sq (by decide +kernel) ?_
  have := b1.2; have := hd.2
  grind

theorem near_of_sq {w y d : Rat} (w0 : 0 ≤ w) (y0 : 0 ≤ y) (d0 : 0 ≤ d) (h : Ab (w * w - y * y) (d * d)) : Ab (w - y) d := by
  have hyd := Rat.mul_nonneg y0 d0
  have hwd := Rat.mul_nonneg w0 d0
  constructor
  · apply Classical.byContradiction; intro hn
    have := sq_lt (show 0 ≤ w + d by grind) (show w + d < y by grind)
    have := h.1; grind
  · apply Classical.byContradiction; intro hn
    have := sq_lt (show 0 ≤ y + d by grind) (show y + d < w by grind)
    have := h.2; grind

/-- the square of a root: u, v are its parts without a sign; X, Y what it is the root of -/
theorem square_bd {X Y l T1 T2 u v : Rat} (hl : Ab (l * l - (X * X + Y * Y)) (11 / 1000000)) (l1 : l ≤ 32 / 5) (lX : X - 1 / 1000000 ≤ l) (lX' : -X - 1 / 1000000 ≤ l)
    (h1 : Ab (T1 - (l + X)) (8 / 10000000)) (h2 : Ab (T2 - (l - X)) (8 / 10000000)) (hu : Ab (u * u - T1 / 2) (5 / 2000000)) (hv : Ab (v * v - T2 / 2) (5 / 2000000)) (u0 : 0 ≤ u) (v0 : 0 ≤ v) :
    Ab (u * u - v * v - X) (1 / 100000) ∧ (0 ≤ Y → Ab (2 * (u * v) - Y) (1 / 105)) ∧ (Y ≤ 0 → Ab (2 * (u * v) + Y) (1 / 105)) := by
  have a1 : Ab (u * u - (l + X) / 2) (29 / 10000000) := ⟨by have := hu.1; have := h1.1; grind, by have := hu.2; have := h1.2; grind⟩
  have a2 : Ab (v * v - (l - X) / 2) (29 / 10000000) := ⟨by have := hv.1; have := h2.1; grind, by have := hv.2; have := h2.2; grind⟩
  have hre : Ab (u * u - v * v - X) (1 / 100000) := ⟨by have := a1.1; have := a2.2; grind, by have := a1.2; have := a2.1; grind⟩
  refine ⟨hre, ?_⟩
  have m1 := ab_mul a1 a2
  have s1 : 0 ≤ (l + X) / 2 + 1 / 1000000 := by grind
  have s2 : 0 ≤ (l - X) / 2 + 1 / 1000000 := by grind
  have g1 := Rat.mul_le_mul_of_nonneg_right a1.2 s2
  have g2 := Rat.mul_le_mul_of_nonneg_right a1.1 s2
  have g3 := Rat.mul_le_mul_of_nonneg_right a2.2 s1
  have g4 := Rat.mul_le_mul_of_nonneg_right a2.1 s1
  have e4 : u * u * (v * v) - (l * l - X * X) / 4 = (u * u - (l + X) / 2) * (v * v - (l - X) / 2) + ((u * u - (l + X) / 2) * ((l - X) / 2) + (v * v - (l - X) / 2) * ((l + X) / 2)) := by grind
  generalize hE1 : u * u - (l + X) / 2 = E1 at *
  generalize hE2 : v * v - (l - X) / 2 = E2 at *
  have hw : Ab (u * u * (v * v) - (l * l - X * X) / 4) (19 / 1000000) := by
    rw [e4]
    generalize E1 * E2 = M at *
    have k1 := a1.1; have k2 := a1.2; have k3 := a2.1; have k4 := a2.2
    constructor
    · have := m1.1; grind
    · have := m1.2; grind
  have hD : Ab (2 * (u * v) * (2 * (u * v)) - Y * Y) (1 / 105 * (1 / 105)) := by
    have e5 : 2 * (u * v) * (2 * (u * v)) = 4 * (u * u * (v * v)) := by grind
    rw [e5]
    constructor
    · have := hw.1; have := hl.1; grind
    · have := hw.2; have := hl.2; grind
  have w0 : 0 ≤ 2 * (u * v) := by have := Rat.mul_nonneg u0 v0; grind
  constructor
  · intro hY; exact near_of_sq w0 hY (by decide +kernel) hD
  · intro hY
    have e6 : Y * Y = -Y * -Y := by grind
    rw [e6] at hD
    have := near_of_sq w0 (show 0 ≤ -Y by grind) (by decide +kernel) hD
    exact ⟨by have := this.1; grind, by have := this.2; grind⟩
end Go.Proofs.Ytjhicedblobjfaa
