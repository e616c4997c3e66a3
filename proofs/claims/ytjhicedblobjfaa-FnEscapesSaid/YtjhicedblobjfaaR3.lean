/- Rounding to a float, over rationals, third part: order, exactness, error; the operations. -/
import Derived.Test.YtjhicedblobjfaaR2
namespace Go.Proofs.Ytjhicedblobjfaa
open Ieee

theorem sg_neg (s : Bool) (x : Rat) : sg (!s) x = -sg s x := by cases s <;> simp [sg]

/-- x is a multiple of a float's last digit, with few digits -/
def Rep (f : Format) (x : Rat) : Prop := ∃ (s : Bool) (c : Nat) (l : Int), x = sg s ((c : Rat) * 2 ^ l) ∧ c ≤ 2 ^ (f.fractionBits + 1) ∧ f.leastPlace ≤ l

theorem num_rep {f : Format} {b : Nat} {v : Rat} (h : Num f b v) : Rep f v := by
  obtain ⟨s, m, e, h1, h2⟩ := h
  refine ⟨s, m, e, h2, ?_⟩
  have hB : 0 < f.binade := Nat.two_pow_pos _
  have h2B : 2 ^ (f.fractionBits + 1) = 2 * f.binade := by rw [Nat.pow_succ]; unfold Format.binade; omega
  unfold Format.read at h1
  simp only at h1
  rw [h2B]
  generalize b % f.signWeight = R at h1
  split at h1
  · injection h1 with a b c; subst b c; constructor <;> omega
  · split at h1
    · injection h1 with a b c
      have := Nat.mod_lt R hB
      omega
    · split at h1 <;> cases h1

theorem nearPos_bounds {f : Format} {x : Rat} {L last : Int} {c : Nat} (hl : Lead x L) (hlast : last = max (L - f.fractionBits) f.leastPlace) (hr : Rne (x * 2 ^ (-last)) c) :
    c ≤ 2 ^ (f.fractionBits + 1) ∧ (last = f.leastPlace ∨ 2 ^ f.fractionBits ≤ c) := by
  have hn := p2_pos (-last)
  constructor
  · refine rne_mono hr (rne_nat _) ?_
    rw [← p2_nat]
    have h1 : x * 2 ^ (-last) ≤ 2 ^ (L + 1) * 2 ^ (-last) := Rat.mul_le_mul_of_nonneg_right (Rat.le_of_lt hl.2) (Rat.le_of_lt hn)
    rw [← p2_add] at h1
    exact Rat.le_trans h1 (p2_mono (by omega))
  · by_cases h : last = f.leastPlace
    · left; exact h
    · right
      refine rne_mono (rne_nat _) hr ?_
      rw [← p2_nat]
      have : (2 : Rat) ^ (f.fractionBits : Int) = 2 ^ L * 2 ^ (-last) := by rw [← p2_add]; congr 1; omega
      rw [this]
      exact Rat.mul_le_mul_of_nonneg_right hl.1 (Rat.le_of_lt hn)

theorem nearPos_nonneg {f : Format} {x y : Rat} (h : NearPos f x y) : 0 ≤ y := by
  obtain ⟨L, last, c, _, _, _, rfl⟩ := h
  exact Rat.mul_nonneg Rat.natCast_nonneg (Rat.le_of_lt (p2_pos _))

theorem nearPos_mono {f : Format} {x y x' y' : Rat} (h : NearPos f x y) (k : NearPos f x' y') (hx : x ≤ x') : y ≤ y' := by
  obtain ⟨L, last, c, hl, hlast, hr, rfl⟩ := h
  obtain ⟨L', last', c', kl, klast, kr, rfl⟩ := k
  have hL := lead_mono hl kl hx
  have b1 := (nearPos_bounds hl hlast hr).1
  have b2 := (nearPos_bounds kl klast kr).2
  have hp := p2_pos last
  have hp' := p2_pos last'
  by_cases he : last = last'
  · subst he
    have hn := p2_pos (-last)
    have hcc := rne_mono hr kr (Rat.mul_le_mul_of_nonneg_right hx (Rat.le_of_lt hn))
    exact Rat.mul_le_mul_of_nonneg_right (Rat.natCast_le_natCast.2 hcc) (Rat.le_of_lt hp)
  · have hlt : last < last' := by omega
    have hne : last' ≠ f.leastPlace := by omega
    have b3 : 2 ^ f.fractionBits ≤ c' := by rcases b2 with b | b; exact absurd b hne; exact b
    have g1 : (c : Rat) * 2 ^ last ≤ 2 ^ ((f.fractionBits : Int) + 1) * 2 ^ last := by
      refine Rat.mul_le_mul_of_nonneg_right ?_ (Rat.le_of_lt hp)
      have : (f.fractionBits : Int) + 1 = ((f.fractionBits + 1 : Nat) : Int) := by omega
      rw [this, p2_nat]; exact Rat.natCast_le_natCast.2 b1
    have g2 : (2 : Rat) ^ (f.fractionBits : Int) * 2 ^ last' ≤ (c' : Rat) * 2 ^ last' := by
      refine Rat.mul_le_mul_of_nonneg_right ?_ (Rat.le_of_lt hp')
      rw [p2_nat]; exact Rat.natCast_le_natCast.2 b3
    rw [← p2_add] at g1 g2
    have g3 : (2 : Rat) ^ ((f.fractionBits : Int) + 1 + last) ≤ 2 ^ ((f.fractionBits : Int) + last') := p2_mono (by omega)
    exact Rat.le_trans g1 (Rat.le_trans g3 g2)

theorem near_mono {f : Format} {x y x' y' : Rat} (h : Near f x y) (k : Near f x' y') (hx : x ≤ x') : y ≤ y' := by
  rcases h with ⟨h1, h2⟩ | ⟨h1, h2⟩ | ⟨h1, h2⟩ <;> rcases k with ⟨k1, k2⟩ | ⟨k1, k2⟩ | ⟨k1, k2⟩
  · grind
  · have := nearPos_nonneg k2; grind
  · grind
  · grind
  · exact nearPos_mono h2 k2 hx
  · grind
  · have := nearPos_nonneg h2; grind
  · have := nearPos_nonneg h2; have := nearPos_nonneg k2; grind
  · have := nearPos_mono k2 h2 (by grind); grind

theorem near_unique {f : Format} {x y y' : Rat} (h : Near f x y) (k : Near f x y') : y = y' :=
  Rat.le_antisymm (near_mono h k Rat.le_refl) (near_mono k h Rat.le_refl)

theorem near_neg {f : Format} {x y : Rat} (h : Near f x y) : Near f (-x) (-y) := by
  rcases h with ⟨h1, h2⟩ | ⟨h1, h2⟩ | ⟨h1, h2⟩
  · left; constructor <;> grind
  · right; right; refine ⟨by grind, ?_⟩; rw [Rat.neg_neg, Rat.neg_neg]; exact h2
  · right; left; exact ⟨by grind, h2⟩

theorem nearPos_rep {f : Format} {c : Nat} {l : Int} (hc0 : c ≠ 0) (hc : c ≤ 2 ^ (f.fractionBits + 1)) (hl : f.leastPlace ≤ l) : NearPos f ((c : Rat) * 2 ^ l) ((c : Rat) * 2 ^ l) := by
  have hlead := lead_nat hc0 l
  by_cases h : c = 2 ^ (f.fractionBits + 1)
  · have e : (c : Rat) * 2 ^ l = ((2 ^ f.fractionBits : Nat) : Rat) * 2 ^ (l + 1) := by
      rw [h, p2_succ, Nat.pow_succ]; push_cast; grind
    have hlog : c.log2 = f.fractionBits + 1 := by rw [h]; exact Nat.log2_two_pow
    refine ⟨_, l + 1, 2 ^ f.fractionBits, hlead, by omega, ?_, e⟩
    rw [e, Rat.mul_assoc, ← p2_add, show l + 1 + -(l + 1) = 0 by omega, p2_zero, Rat.mul_one]
    exact rne_nat _
  · have hlog : c.log2 ≤ f.fractionBits := by
      have : c < 2 ^ (f.fractionBits + 1) := by omega
      have := (Nat.log2_lt hc0).2 this
      omega
    generalize hlast : max (l + (c.log2 : Int) - f.fractionBits) f.leastPlace = last
    have hll : last ≤ l := by omega
    refine ⟨_, last, c * 2 ^ (l - last).toNat, hlead, hlast.symm, ?_, ?_⟩
    · have : (c : Rat) * 2 ^ l * 2 ^ (-last) = ((c * 2 ^ (l - last).toNat : Nat) : Rat) := by
        push_cast
        rw [Rat.mul_assoc, ← p2_add]
        have e1 : (2 : Rat) ^ (l + -last) = 2 ^ (((l - last).toNat : Nat) : Int) := by congr 1; omega
        rw [e1, p2_nat]; push_cast; rfl
      rw [this]; exact rne_nat _
    · push_cast
      have e1 : (2 : Rat) ^ l = 2 ^ (((l - last).toNat : Nat) : Int) * 2 ^ last := by rw [← p2_add]; congr 1; omega
      rw [e1, p2_nat]; push_cast; grind

theorem near_rep {f : Format} {x : Rat} (h : Rep f x) : Near f x x := by
  obtain ⟨s, c, l, rfl, hc, hl⟩ := h
  by_cases hc0 : c = 0
  · subst hc0; left; cases s <;> simp [sg]
  · have hp : (0 : Rat) < (c : Rat) * 2 ^ l := Rat.mul_pos (Rat.natCast_pos.2 (by omega)) (p2_pos l)
    have := nearPos_rep hc0 hc hl
    cases s
    · exact Or.inr (Or.inl ⟨hp, this⟩)
    · exact near_neg (Or.inr (Or.inl ⟨hp, this⟩))

theorem near_exact {f : Format} {x y : Rat} (h : Near f x y) (hr : Rep f x) : y = x := near_unique h (near_rep hr)
theorem near_le {f : Format} {x y c : Rat} (h : Near f x y) (hr : Rep f c) (hx : x ≤ c) : y ≤ c := near_mono h (near_rep hr) hx
theorem near_ge {f : Format} {x y c : Rat} (h : Near f x y) (hr : Rep f c) (hx : c ≤ x) : c ≤ y := near_mono (near_rep hr) h hx

/-- the error of rounding: relative, and absolute near zero -/
def ue (f : Format) : Rat := 2 ^ (-((f.fractionBits : Int) + 1))
def et (f : Format) : Rat := 2 ^ (f.leastPlace - 1)
theorem ue_pos (f : Format) : 0 < ue f := p2_pos _
theorem et_pos (f : Format) : 0 < et f := p2_pos _

theorem nearPos_err {f : Format} {x y : Rat} (hx : 0 < x) (h : NearPos f x y) : y ≤ x + (x * ue f + et f) ∧ x ≤ y + (x * ue f + et f) := by
  obtain ⟨L, last, c, hl, hlast, ⟨r1, r2, _⟩, rfl⟩ := h
  have hp := p2_pos last
  have e1 : x * 2 ^ (-last) * 2 ^ last = x := by rw [Rat.mul_assoc, p2_neg_mul, Rat.mul_one]
  have m1 := Rat.mul_le_mul_of_nonneg_right r1 (Rat.le_of_lt hp)
  have m2 := Rat.mul_le_mul_of_nonneg_right r2 (Rat.le_of_lt hp)
  have hlow : (2 : Rat) ^ last ≤ 2 * (x * ue f + et f) := by
    have ex : 0 ≤ x * ue f := Rat.mul_nonneg (Rat.le_of_lt hx) (Rat.le_of_lt (ue_pos f))
    have ee := et_pos f
    by_cases h : last = f.leastPlace
    · have : (2 : Rat) ^ last = 2 * et f := by unfold et; rw [← p2_succ, h]; congr 1; omega
      grind
    · have hll : last = L - f.fractionBits := by omega
      have : (2 : Rat) ^ last = 2 * (2 ^ L * ue f) := by unfold ue; rw [← p2_add, ← p2_succ]; congr 1; omega
      have := Rat.mul_le_mul_of_nonneg_right hl.1 (Rat.le_of_lt (ue_pos f))
      grind
  constructor <;> grind

theorem near_err {f : Format} {x y B : Rat} (h : Near f x y) (h1 : x ≤ B) (h2 : -B ≤ x) : y ≤ x + (B * ue f + et f) ∧ x ≤ y + (B * ue f + et f) := by
  have hu := ue_pos f
  have he := et_pos f
  rcases h with ⟨rfl, rfl⟩ | ⟨k1, k2⟩ | ⟨k1, k2⟩
  · have : 0 ≤ B * ue f := Rat.mul_nonneg (by grind) (Rat.le_of_lt hu)
    constructor <;> grind
  · have := nearPos_err k1 k2
    have := Rat.mul_le_mul_of_nonneg_right h1 (Rat.le_of_lt hu)
    constructor <;> grind
  · have := nearPos_err (show 0 < -x by grind) k2
    have := Rat.mul_le_mul_of_nonneg_right (show -x ≤ B by grind) (Rat.le_of_lt hu)
    constructor <;> grind
end Go.Proofs.Ytjhicedblobjfaa
