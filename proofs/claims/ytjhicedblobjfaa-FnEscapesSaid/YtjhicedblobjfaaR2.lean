/- Rounding to a float, over rationals, second part: words that are read; nearest. -/
import Derived.Test.YtjhicedblobjfaaR1
namespace Go.Proofs.Ytjhicedblobjfaa
open Ieee

/-- the number of a sign and a magnitude -/
def sg (s : Bool) (x : Rat) : Rat := if s then -x else x
/-- the bits b are a finite number of the value v -/
def Num (f : Format) (b : Nat) (v : Rat) : Prop := ∃ s m e, f.read b = .number s m e ∧ v = sg s ((m : Rat) * 2 ^ e)

theorem num_unique {f : Format} {b : Nat} {v u : Rat} (h : Num f b v) (k : Num f b u) : v = u := by
  obtain ⟨s, m, e, h1, h2⟩ := h
  obtain ⟨s', m', e', k1, k2⟩ := k
  rw [h1] at k1
  injection k1 with a b c
  subst a b c
  rw [h2, k2]

/-- y is the float nearest to x > 0 -/
def NearPos (f : Format) (x y : Rat) : Prop :=
  ∃ (L last : Int) (c : Nat), Lead x L ∧ last = max (L - f.fractionBits) f.leastPlace ∧ Rne (x * 2 ^ (-last)) c ∧ y = (c : Rat) * 2 ^ last
def Near (f : Format) (x y : Rat) : Prop := (x = 0 ∧ y = 0) ∨ (0 < x ∧ NearPos f x y) ∨ (x < 0 ∧ NearPos f (-x) (-y))

/-- of smaller numbers nothing overflows -/
def top (f : Format) : Int := 2 ^ (f.exponentBits - 1) - 1

theorem infRung_lt' (f : Format) : f.infRung < f.signWeight := f.infRung_lt

theorem read_word (f : Format) (s : Bool) (k c : Nat) (hk : k = 0 ∨ f.binade ≤ c) (hc : c ≤ 2 * f.binade) (hr : k * f.binade + c < f.infRung) :
    ∃ m e, f.read (f.word s (k * f.binade + c)) = .number s m e ∧ (m : Rat) * 2 ^ e = (c : Rat) * 2 ^ (f.leastPlace + k) := by
  have hB : 0 < f.binade := Nat.two_pow_pos _
  have hw := f.infRung_lt
  generalize hR : k * f.binade + c = R at *
  have hneg : (f.word s R / f.signWeight % 2 == 1) = s := by
    unfold Format.word
    cases s
    · simp only [Bool.false_eq_true, if_false]
      rw [Nat.div_eq_of_lt (by omega)]; rfl
    · simp only [if_true]
      rw [Nat.add_div_left _ (by omega), Nat.div_eq_of_lt (by omega)]; rfl
  have hrun : f.word s R % f.signWeight = R := by
    unfold Format.word
    cases s
    · simp only [Bool.false_eq_true, if_false]
      exact Nat.mod_eq_of_lt (by omega)
    · simp only [if_true]
      rw [Nat.add_mod_left]; exact Nat.mod_eq_of_lt (by omega)
  unfold Format.read
  simp only [hneg, hrun]
  by_cases h1 : R < f.binade
  · rw [if_pos h1]
    refine ⟨R, f.leastPlace, rfl, ?_⟩
    have k0 : k = 0 := by
      rcases hk with h | h
      · exact h
      · have : c ≤ R := by rw [← hR]; exact Nat.le_add_left _ _
        omega
    subst k0
    have : R = c := by rw [← hR]; simp
    rw [this]; simp
  · rw [if_neg h1, if_pos hr]
    refine ⟨_, _, rfl, ?_⟩
    by_cases h2 : c < f.binade
    · exfalso
      have k0 : k = 0 := by rcases hk with h | h <;> omega
      subst k0
      simp at hR; omega
    · by_cases h3 : c = 2 * f.binade
      · have e : R = f.binade * (k + 2) := by rw [← hR, h3, Nat.mul_add, Nat.mul_comm k]; omega
        have e1 : R % f.binade = 0 := by rw [e]; exact Nat.mul_mod_right _ _
        have e2 : R / f.binade = k + 2 := by rw [e]; exact Nat.mul_div_cancel_left _ hB
        rw [e1, e2, h3]
        have e3 : f.leastPlace + ((k + 2 - 1 : Nat) : Int) = (f.leastPlace + (k : Int)) + 1 := by omega
        rw [e3, p2_succ]
        have : ((f.binade + 0 : Nat) : Rat) = (f.binade : Rat) := by simp
        rw [this]
        have : ((2 * f.binade : Nat) : Rat) = 2 * (f.binade : Rat) := by push_cast; rfl
        rw [this]; grind
      · have hc2 : c - f.binade < f.binade := by omega
        have e : R = (c - f.binade) + f.binade * (k + 1) := by rw [← hR, Nat.mul_add, Nat.mul_comm k]; omega
        have e1 : R % f.binade = c - f.binade := by rw [e, Nat.add_mul_mod_self_left]; exact Nat.mod_eq_of_lt hc2
        have e2 : R / f.binade = k + 1 := by rw [e, Nat.add_mul_div_left _ _ hB, Nat.div_eq_of_lt hc2]; omega
        rw [e1, e2]
        have e3 : f.binade + (c - f.binade) = c := by omega
        rw [e3]; rfl

theorem binade_rat (f : Format) : ((f.binade : Nat) : Rat) = 2 ^ (f.fractionBits : Int) := by rw [p2_nat]; rfl

theorem nearest_pos (f : Format) (hf : 2 ≤ f.exponentBits) (s : Bool) (m : Nat) (e : Int) (hm : m ≠ 0) (hx : (m : Rat) * 2 ^ e < 2 ^ top f) :
    ∃ m' e', f.read (f.nearest s m e) = .number s m' e' ∧ NearPos f ((m : Rat) * 2 ^ e) ((m' : Rat) * 2 ^ e') := by
  have hlead := lead_nat hm e
  unfold Format.nearest
  rw [if_neg hm]
  simp only
  generalize hL : e + (m.log2 : Int) = L at *
  generalize hlast : max (L - (f.fractionBits : Int)) f.leastPlace = last
  have hl1 : L - f.fractionBits ≤ last := by omega
  have hl2 : f.leastPlace ≤ last := by omega
  have hrne : Rne ((m : Rat) * 2 ^ e * 2 ^ (-last)) (Toward.even.cut s (m <<< (e - last).toNat) (last - e).toNat) := by
    have h := rne_cut s (m <<< (e - last).toNat) (last - e).toNat
    have : ((m <<< (e - last).toNat : Nat) : Rat) * 2 ^ (-((last - e).toNat : Int)) = (m : Rat) * 2 ^ e * 2 ^ (-last) := by
      have e1 : ((m <<< (e - last).toNat : Nat) : Rat) = (m : Rat) * 2 ^ ((e - last).toNat : Int) := by
        rw [Nat.shiftLeft_eq, p2_nat]; push_cast; rfl
      rw [e1, Rat.mul_assoc, ← p2_add, Rat.mul_assoc, ← p2_add]
      congr 2; omega
    rw [this] at h; exact h
  generalize hkept : Toward.even.cut s (m <<< (e - last).toNat) (last - e).toNat = kept at *
  have hB := binade_rat f
  have hn := p2_pos (-last)
  have hkc : (last - f.leastPlace).toNat = 0 ∨ f.binade ≤ kept := by
    by_cases h : last = f.leastPlace
    · left; omega
    · right
      have hll : last = L - f.fractionBits := by omega
      refine rne_mono (rne_nat f.binade) hrne ?_
      rw [hB]
      have : (2 : Rat) ^ (f.fractionBits : Int) = 2 ^ L * 2 ^ (-last) := by rw [← p2_add]; congr 1; omega
      rw [this]
      exact Rat.mul_le_mul_of_nonneg_right hlead.1 (Rat.le_of_lt hn)
  have hc : kept ≤ 2 * f.binade := by
    refine rne_mono hrne (rne_nat (2 * f.binade)) ?_
    have e1 : ((2 * f.binade : Nat) : Rat) = 2 ^ ((f.fractionBits : Int) + 1) := by rw [p2_succ, ← hB]; push_cast; rfl
    rw [e1]
    have h1 : (m : Rat) * 2 ^ e * 2 ^ (-last) ≤ 2 ^ (L + 1) * 2 ^ (-last) := Rat.mul_le_mul_of_nonneg_right (Rat.le_of_lt hlead.2) (Rat.le_of_lt hn)
    rw [← p2_add] at h1
    have h2 : (2 : Rat) ^ (L + 1 + -last) ≤ 2 ^ ((f.fractionBits : Int) + 1) := p2_mono (by omega)
    exact Rat.le_trans h1 h2
  have hLt : L < top f := p2_lt_inv (by have := hlead.1; grind)
  have hE : 2 ^ f.exponentBits = 2 * 2 ^ (f.exponentBits - 1) := by
    obtain ⟨n, hn⟩ : ∃ n, f.exponentBits = n + 1 := ⟨f.exponentBits - 1, by omega⟩
    rw [hn, Nat.pow_succ]; simp; omega
  have hE2 : 2 ≤ 2 ^ (f.exponentBits - 1) := by
    have : 2 ^ 1 ≤ 2 ^ (f.exponentBits - 1) := Nat.pow_le_pow_right (by decide) (by omega)
    simpa using this
  have hcast : (2 : Int) ^ (f.exponentBits - 1) = ((2 ^ (f.exponentBits - 1) : Nat) : Int) := by push_cast; rfl
  have hlp : f.leastPlace = 2 - ((2 ^ (f.exponentBits - 1) : Nat) : Int) - f.fractionBits := by unfold Format.leastPlace; rw [hcast]
  have htop : top f = ((2 ^ (f.exponentBits - 1) : Nat) : Int) - 1 := by unfold top; rw [hcast]
  have hfin : (last - f.leastPlace).toNat * f.binade + kept < f.infRung := by
    have hk2 : (last - f.leastPlace).toNat + 2 < 2 ^ f.exponentBits - 1 := by
      generalize 2 ^ (f.exponentBits - 1) = E at *
      rw [hE]; omega
    have hB0 : 0 < f.binade := Nat.two_pow_pos _
    have : ((last - f.leastPlace).toNat + 2) * f.binade < f.infRung := by
      unfold Format.infRung
      exact Nat.mul_lt_mul_of_pos_right hk2 hB0
    rw [Nat.add_mul] at this
    omega
  rw [Nat.min_eq_left (Nat.le_of_lt hfin)]
  obtain ⟨m', e', hr, hv⟩ := read_word f s _ kept hkc hc hfin
  refine ⟨m', e', hr, L, last, kept, hlead, hlast.symm, hrne, ?_⟩
  rw [hv]; congr 2; omega

theorem nearest_near (f : Format) (hf : 2 ≤ f.exponentBits) (s : Bool) (m : Nat) (e : Int) (hx : (m : Rat) * 2 ^ e < 2 ^ top f) :
    ∃ y, Num f (f.nearest s m e) y ∧ Near f (sg s ((m : Rat) * 2 ^ e)) y := by
  by_cases hm : m = 0
  · subst hm
    have hr : f.read (f.nearest s 0 e) = .number s 0 f.leastPlace := by
      have h : f.nearest s 0 e = f.word s (0 * f.binade + 0) := by simp [Format.nearest]
      have hB0 : 0 < f.binade := Nat.two_pow_pos _
      have hw : 0 < f.signWeight := Nat.two_pow_pos _
      rw [h]
      unfold Format.read
      have hneg : (f.word s (0 * f.binade + 0) / f.signWeight % 2 == 1) = s := by
        unfold Format.word
        cases s <;> simp [Nat.div_self hw]
      have hrun : f.word s (0 * f.binade + 0) % f.signWeight = 0 := by
        unfold Format.word
        cases s <;> simp
      simp only [hneg, hrun]
      rw [if_pos hB0]
    refine ⟨0, ⟨s, 0, _, hr, ?_⟩, Or.inl ⟨?_, rfl⟩⟩ <;> cases s <;> simp [sg]
  · obtain ⟨m', e', hr, hn⟩ := nearest_pos f hf s m e hm hx
    have hpos : (0 : Rat) < (m : Rat) * 2 ^ e := Rat.mul_pos (Rat.natCast_pos.2 (by omega)) (p2_pos e)
    refine ⟨_, ⟨s, m', e', hr, rfl⟩, ?_⟩
    cases s
    · exact Or.inr (Or.inl ⟨hpos, hn⟩)
    · refine Or.inr (Or.inr ⟨?_, ?_⟩)
      · simp only [sg, if_true]; grind
      · simp only [sg, if_true, Rat.neg_neg]; exact hn
end Go.Proofs.Ytjhicedblobjfaa
