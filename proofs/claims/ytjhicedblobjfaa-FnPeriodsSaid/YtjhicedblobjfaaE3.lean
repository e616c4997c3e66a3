/- The fast reckoning: roots, lengths, and the roots of complex numbers. -/
import Derived.Test.YtjhicedblobjfaaE2
import Derived.Test.YtjhicedblobjfaaF5
namespace Go.Proofs.Ytjhicedblobjfaa
open Ieee

theorem p2_shift (a : Int) (n : Nat) : (2 : Rat) ^ (a + (n : Int)) = 2 ^ a * ((2 ^ n : Nat) : Rat) := by rw [p2_add, p2_nat]

/-- a candidate for a root is it -/
theorem root_cand {p c d : Nat} {y : Rat} (h : NearRoot ((p : Rat) * 2 ^ (-298 : Int)) y) (h1 : 2 ^ (d + 52) * 2 ^ (d + 52) ≤ p) (h2 : p < 2 ^ (d + 53) * 2 ^ (d + 53))
    (hc : 1 ≤ c) (h3 : (2 * c - 1) * 2 ^ d * ((2 * c - 1) * 2 ^ d) < 4 * p) (h4 : 4 * p < (2 * c + 1) * 2 ^ d * ((2 * c + 1) * 2 ^ d)) : y = ((c * 2 ^ d : Nat) : Rat) * 2 ^ (-149 : Int) := by
  obtain ⟨last, c', rfl, _, _, l1, l2, r1, r2⟩ := h
  have k298 := p2_pos 298
  have e298 : (p : Rat) * 2 ^ (-298 : Int) * 2 ^ (298 : Int) = (p : Rat) := by rw [Rat.mul_assoc, ← p2_add]; simp [p2_zero]
  have m1 := Rat.mul_le_mul_of_nonneg_right l1 (Rat.le_of_lt k298)
  have m2 := Rat.mul_lt_mul_of_pos_right l2 k298
  have m3 := Rat.mul_le_mul_of_nonneg_right r1 (Rat.le_of_lt k298)
  have m4 := Rat.mul_le_mul_of_nonneg_right r2 (Rat.le_of_lt k298)
  rw [e298] at m1 m2 m3 m4
  have s1 : (2 : Rat) ^ (last + 52) * 2 ^ (last + 52) * 2 ^ (298 : Int) = 2 ^ (2 * (last + 201)) := by rw [← p2_add, ← p2_add]; congr 1; omega
  have s2 : (2 : Rat) ^ (last + 53) * 2 ^ (last + 53) * 2 ^ (298 : Int) = 2 ^ (2 * (last + 202)) := by rw [← p2_add, ← p2_add]; congr 1; omega
  rw [s1] at m1
  rw [s2] at m2
  have g1 : (2 : Rat) ^ (2 * ((d : Int) + 52)) ≤ (p : Rat) := by
    have e : (2 : Rat) ^ (2 * ((d : Int) + 52)) = ((2 ^ (d + 52) * 2 ^ (d + 52) : Nat) : Rat) := by
      rw [← Nat.pow_add, ← p2_nat]; congr 1; omega
    rw [e]; exact Rat.natCast_le_natCast.2 h1
  have g2 : (p : Rat) < (2 : Rat) ^ (2 * ((d : Int) + 53)) := by
    have e : (2 : Rat) ^ (2 * ((d : Int) + 53)) = ((2 ^ (d + 53) * 2 ^ (d + 53) : Nat) : Rat) := by
      rw [← Nat.pow_add, ← p2_nat]; congr 1; omega
    rw [e]; exact Rat.natCast_lt_natCast.2 h2
  have b1 := p2_lt_inv (show (2 : Rat) ^ (2 * (last + 201)) < 2 ^ (2 * ((d : Int) + 53)) by grind)
  have b2 := p2_lt_inv (show (2 : Rat) ^ (2 * ((d : Int) + 52)) < 2 ^ (2 * (last + 202)) by grind)
  have hlast : last = (d : Int) - 149 := by omega
  subst hlast
  have hD : (2 : Rat) ^ ((d : Int) - 149 - 1) * 2 ^ ((d : Int) - 149 - 1) * 2 ^ (298 : Int) * 4 = ((2 ^ d : Nat) : Rat) * ((2 ^ d : Nat) : Rat) := by
    have e4 : (4 : Rat) = 2 ^ (2 : Int) := by decide +kernel
    rw [e4, ← p2_add, ← p2_add, ← p2_add, ← p2_nat, ← p2_add]; congr 1; omega
  generalize (2 : Rat) ^ ((d : Int) - 149 - 1) = H at *
  have hd0 : (0 : Rat) < ((2 ^ d : Nat) : Rat) := Rat.natCast_pos.2 (Nat.two_pow_pos d)
  -- four times, in whole numbers
  have q3 : (2 * (c' : Rat) - 1) * ((2 ^ d : Nat) : Rat) * ((2 * (c' : Rat) - 1) * ((2 ^ d : Nat) : Rat)) ≤ 4 * (p : Rat) := by
    have : (2 * (c' : Rat) - 1) * ((2 ^ d : Nat) : Rat) * ((2 * (c' : Rat) - 1) * ((2 ^ d : Nat) : Rat)) = (2 * (c' : Rat) - 1) * H * ((2 * (c' : Rat) - 1) * H) * 2 ^ (298 : Int) * 4 := by
      have : (2 * (c' : Rat) - 1) * ((2 ^ d : Nat) : Rat) * ((2 * (c' : Rat) - 1) * ((2 ^ d : Nat) : Rat)) = (2 * (c' : Rat) - 1) * (2 * (c' : Rat) - 1) * (((2 ^ d : Nat) : Rat) * ((2 ^ d : Nat) : Rat)) := by grind
      rw [this, ← hD]; grind
    rw [this]; grind
  have q4 : 4 * (p : Rat) ≤ (2 * (c' : Rat) + 1) * ((2 ^ d : Nat) : Rat) * ((2 * (c' : Rat) + 1) * ((2 ^ d : Nat) : Rat)) := by
    have : (2 * (c' : Rat) + 1) * ((2 ^ d : Nat) : Rat) * ((2 * (c' : Rat) + 1) * ((2 ^ d : Nat) : Rat)) = (2 * (c' : Rat) + 1) * H * ((2 * (c' : Rat) + 1) * H) * 2 ^ (298 : Int) * 4 := by
      have : (2 * (c' : Rat) + 1) * ((2 ^ d : Nat) : Rat) * ((2 * (c' : Rat) + 1) * ((2 ^ d : Nat) : Rat)) = (2 * (c' : Rat) + 1) * (2 * (c' : Rat) + 1) * (((2 ^ d : Nat) : Rat) * ((2 ^ d : Nat) : Rat)) := by grind
      rw [this, ← hD]; grind
    rw [this]; grind
  have c1 : ((2 * c - 1 : Nat) : Rat) = 2 * (c : Rat) - 1 := by
    obtain ⟨m, rfl⟩ : ∃ m, c = m + 1 := ⟨c - 1, by omega⟩
    have : 2 * (m + 1) - 1 = 2 * m + 1 := by omega
    rw [this]; push_cast; grind
  have n3 : (2 * (c : Rat) - 1) * ((2 ^ d : Nat) : Rat) * ((2 * (c : Rat) - 1) * ((2 ^ d : Nat) : Rat)) < 4 * (p : Rat) := by
    have := Rat.natCast_lt_natCast.2 h3
    rw [Rat.natCast_mul, Rat.natCast_mul, c1, Rat.natCast_mul] at this
    exact this
  have n4 : 4 * (p : Rat) < (2 * (c : Rat) + 1) * ((2 ^ d : Nat) : Rat) * ((2 * (c : Rat) + 1) * ((2 ^ d : Nat) : Rat)) := by
    have := Rat.natCast_lt_natCast.2 h4
    have e : ((2 * c + 1 : Nat) : Rat) = 2 * (c : Rat) + 1 := by push_cast; rfl
    rw [Rat.natCast_mul, Rat.natCast_mul, Rat.natCast_mul, e] at this
    exact this
  generalize ((2 ^ d : Nat) : Rat) = D at *
  have hc1 : (1 : Rat) ≤ (c : Rat) := Rat.natCast_le_natCast.2 hc
  have hc0' : (0 : Rat) ≤ (c' : Rat) := Rat.natCast_nonneg
  have x1 : (2 * (c' : Rat) - 1) * D < (2 * (c : Rat) + 1) * D := by
    apply Classical.byContradiction; intro hn
    have h5 : (2 * (c : Rat) + 1) * D ≤ (2 * (c' : Rat) - 1) * D := by grind
    have := sq_le (Rat.mul_nonneg (by grind) (Rat.le_of_lt hd0)) h5
    grind
  have x2 : (2 * (c : Rat) - 1) * D < (2 * (c' : Rat) + 1) * D := by
    apply Classical.byContradiction; intro hn
    have h5 : (2 * (c' : Rat) + 1) * D ≤ (2 * (c : Rat) - 1) * D := by grind
    have := sq_le (Rat.mul_nonneg (by grind) (Rat.le_of_lt hd0)) h5
    grind
  have y1 := Rat.lt_of_mul_lt_mul_right x1 (Rat.le_of_lt hd0)
  have y2 := Rat.lt_of_mul_lt_mul_right x2 (Rat.le_of_lt hd0)
  have hcc : c' = c := by
    have z1 : (c' : Rat) < ((c + 1 : Nat) : Rat) := by push_cast; grind
    have z2 : (c : Rat) < ((c' + 1 : Nat) : Rat) := by push_cast; grind
    have := Rat.natCast_lt_natCast.1 z1
    have := Rat.natCast_lt_natCast.1 z2
    omega
  subst hcc
  have e : (2 : Rat) ^ ((d : Int) - 149) = ((2 ^ d : Nat) : Rat) * 2 ^ (-149 : Int) := by rw [← p2_nat, ← p2_add]; congr 1
  rw [e]; push_cast; grind

/-- one step of Newton's -/
noncomputable def newt (p : Nat) (k : Nat → Bool) (w : Nat) : Bool := forceN (Nat.div (Nat.add w (Nat.div p w)) 2) k
/-- the root of p 2^-298 as a 64-bit float, narrowed, as a whole number of 2^-149 -/
noncomputable def sqrtK (p : Nat) (k : Nat → Bool) : Bool :=
  cond (Nat.beq p 0) (k 0) (forceN p fun p =>
    newt p (newt p (newt p (newt p (newt p (newt p (newt p fun w => forceN (Nat.sub (lg w) 52) fun d => forceN (Nat.shiftRight (Nat.add w (Nat.shiftLeft 1 (Nat.pred d))) d) fun c =>
      forceN (Nat.shiftLeft (Nat.pred (Nat.mul 2 c)) d) fun a => forceN (Nat.shiftLeft (Nat.succ (Nat.mul 2 c)) d) fun b =>
      Nat.ble 1 c && Nat.ble (Nat.shiftLeft 1 (Nat.mul 2 (Nat.add d 52))) p && Nat.blt p (Nat.shiftLeft 1 (Nat.mul 2 (Nat.add d 53))) && Nat.blt (Nat.mul a a) (Nat.mul 4 p) && Nat.blt (Nat.mul 4 p) (Nat.mul b b) &&
      forceN (rnK 24 0 (Nat.shiftLeft c d)) k)))))) (Nat.shiftLeft 1 (Nat.succ (Nat.div (lg p) 2))))

theorem newt_ex {p w : Nat} {k : Nat → Bool} (h : newt p k w = true) : ∃ v, k v = true := ⟨_, by unfold newt at h; rw [forceN_eq] at h; exact h⟩

theorem sqrtK_ok {p : Nat} {k : Nat → Bool} (h : sqrtK p k = true) : (p = 0 ∧ k 0 = true) ∨ ∃ c d, 2 ^ (d + 52) * 2 ^ (d + 52) ≤ p ∧ p < 2 ^ (d + 53) * 2 ^ (d + 53) ∧ 1 ≤ c ∧
    (2 * c - 1) * 2 ^ d * ((2 * c - 1) * 2 ^ d) < 4 * p ∧ 4 * p < (2 * c + 1) * 2 ^ d * ((2 * c + 1) * 2 ^ d) ∧ k (rn 24 0 (c * 2 ^ d)) = true := by
  unfold sqrtK at h
  cases hp : Nat.beq p 0
  · rw [hp] at h
    right
    simp only [cond, forceN_eq] at h
    obtain ⟨_, h⟩ := newt_ex h
    obtain ⟨_, h⟩ := newt_ex h
    obtain ⟨_, h⟩ := newt_ex h
    obtain ⟨_, h⟩ := newt_ex h
    obtain ⟨_, h⟩ := newt_ex h
    obtain ⟨_, h⟩ := newt_ex h
    obtain ⟨w, h⟩ := newt_ex h
    generalize Nat.sub (lg w) 52 = d at h
    generalize Nat.shiftRight (Nat.add w (Nat.shiftLeft 1 (Nat.pred d))) d = c at h
    simp only [Bool.and_eq_true] at h
    obtain ⟨⟨⟨⟨⟨h1, h2⟩, h3⟩, h4⟩, h5⟩, h6⟩ := h
    have h1 := Nat.le_of_ble_eq_true h1
    have h2 := Nat.le_of_ble_eq_true h2
    have h3 := Nat.le_of_ble_eq_true h3
    have h4 := Nat.le_of_ble_eq_true h4
    have h5 := Nat.le_of_ble_eq_true h5
    have s1 : ∀ x, Nat.shiftLeft 1 x = 2 ^ x := fun x => Nat.one_shiftLeft x
    have s2 : ∀ x, Nat.shiftLeft x d = x * 2 ^ d := fun x => Nat.shiftLeft_eq x d
    rw [s1] at h2 h3
    rw [s2] at h4 h5 h6
    rw [rnK_eq] at h6
    refine ⟨c, d, ?_, ?_, h1, ?_, ?_, h6⟩
    · rw [← Nat.pow_add]
      have e : d + 52 + (d + 52) = Nat.mul 2 (Nat.add d 52) := by show _ = 2 * (d + 52); omega
      rw [e]; exact h2
    · rw [← Nat.pow_add]
      have e : d + 53 + (d + 53) = Nat.mul 2 (Nat.add d 53) := by show _ = 2 * (d + 53); omega
      rw [e]; exact h3
    · exact h4
    · exact h5
  · rw [hp] at h
    left
    exact ⟨Nat.eq_of_beq_eq_true hp, h⟩

theorem sqrt_narrow {a p : Nat} {k : Nat → Bool} (h : NumK .f64 a ((p : Rat) * 2 ^ (-298 : Int))) (hp : (p : Rat) * 2 ^ (-298 : Int) ≤ 2 ^ (61 : Int)) (hk : sqrtK p k = true) :
    ∃ s r n, fsqrt a = some s ∧ narrow s = some r ∧ NI r (n : Nat) ∧ k n = true := by
  have hp0 : (0 : Rat) ≤ (p : Rat) * 2 ^ (-298 : Int) := Rat.mul_nonneg Rat.natCast_nonneg (Rat.le_of_lt (p2_pos _))
  have h61 := p2_pos 61
  obtain ⟨s, y, e, m, y0, hy, yb⟩ := sqrt_ab h hp0 ⟨by grind, hp⟩
  obtain ⟨r, l, e2, m2, hn⟩ := narrow_ab m yb (p2_lt (by decide))
  rcases sqrtK_ok hk with ⟨rfl, hk0⟩ | ⟨c, d, h1, h2, h3, h4, h5, hk1⟩
  · rcases hy with ⟨_, rfl⟩ | ⟨hlt, _, _⟩
    · have := near_exact hn (rep_nat .f32 (n := 0) (by decide))
      subst this
      refine ⟨s, r, 0, e, e2, ?_, hk0⟩
      have e0 : (((0 : Nat) : Int) : Rat) * 2 ^ (-149 : Int) = ((0 : Nat) : Rat) := by decide +kernel
      unfold NI; rw [e0]; exact m2
    · exfalso
      have : ((0 : Nat) : Rat) * 2 ^ (-298 : Int) = 0 := by rw [show ((0 : Nat) : Rat) = 0 from rfl, Rat.zero_mul]
      grind
  · rcases hy with ⟨h0, _⟩ | ⟨_, _, hroot⟩
    · exfalso
      have hpn : 0 < p := Nat.lt_of_lt_of_le (Nat.mul_pos (Nat.two_pow_pos _) (Nat.two_pow_pos _)) h1
      have := Rat.mul_pos (Rat.natCast_pos.2 hpn) (p2_pos (-298))
      grind
    · have hyc := root_cand hroot h1 h2 h3 h4 h5
      rw [hyc] at hn
      have hnr : Near FloatKind.f32.format (((c * 2 ^ d : Nat) : Rat) * 2 ^ (-149 : Int)) ((rn 24 0 (c * 2 ^ d) : Rat) * 2 ^ (-149 : Int)) :=
        rn_near FloatKind.f32.format (-149) 0 (c * 2 ^ d) (Or.inr ⟨rfl, by decide⟩)
      have := near_unique hn hnr
      subst this
      exact ⟨s, r, rn 24 0 (c * 2 ^ d), e, e2, m2, hk1⟩

/-- the length of a complex number -/
noncomputable def lngK (a b : Int) (k : Int → Bool) : Bool := sqrtK (Int.natAbs (rnIK 53 0 (Int.add (Int.mul a a) (Int.mul b b)))) fun n => k (.ofNat n)

theorem powI_nonneg (a b : Int) : 0 ≤ powI a b := by
  have h : 0 ≤ a * a + b * b := by
    have h1 : 0 ≤ a * a := by rcases Int.le_total 0 a with h | h; exact Int.mul_nonneg h h; exact Int.mul_nonneg_of_nonpos_of_nonpos h h
    have h2 : 0 ≤ b * b := by rcases Int.le_total 0 b with h | h; exact Int.mul_nonneg h h; exact Int.mul_nonneg_of_nonpos_of_nonpos h h
    omega
  unfold powI r64 rnI
  cases hz : a * a + b * b with
  | ofNat n => exact Int.natCast_nonneg _
  | negSucc n => rw [hz] at h; exact absurd h (by omega)

theorem pow_ci {a b : Nat} {x y : Int} (h : CI a b x y) (ox : okI x = true) (oy : okI y = true) :
    ∃ r, powF a b = some r ∧ NumK .f64 r (((powI x y).natAbs : Rat) * 2 ^ (-298 : Int)) ∧ ((powI x y).natAbs : Rat) * 2 ^ (-298 : Int) ≤ 2 ^ (61 : Int) := by
  obtain ⟨r, p, e, n, k, pb, _⟩ := powF_num h.num (okI_ab ox) (okI_ab oy) Rat.le_refl
  have e1 : (x : Rat) * 2 ^ (-149 : Int) * ((x : Rat) * 2 ^ (-149 : Int)) + (y : Rat) * 2 ^ (-149 : Int) * ((y : Rat) * 2 ^ (-149 : Int)) = ((x * x + y * y : Int) : Rat) * 2 ^ (-298 : Int) := by
    rw [← p298, Rat.intCast_add, Rat.intCast_mul, Rat.intCast_mul]; grind
  rw [e1] at k
  have hu := near_unique k (r64_near _)
  have hn : ((powI x y).natAbs : Rat) = ((powI x y : Int) : Rat) := by
    have h0 := powI_nonneg x y
    have e : (((powI x y).natAbs : Int) : Rat) = ((powI x y : Int) : Rat) := by congr 1; omega
    exact e
  have hpe : p = ((powI x y).natAbs : Rat) * 2 ^ (-298 : Int) := by rw [hn]; exact hu
  rw [hpe] at n pb
  exact ⟨r, e, n, pb.2⟩

theorem lng_ci {a b : Nat} {x y : Int} {k : Int → Bool} (h : CI a b x y) (ox : okI x = true) (oy : okI y = true) (hk : lngK x y k = true) :
    ∃ r n, longF a b = some r ∧ NI r n ∧ k n = true := by
  obtain ⟨p, e, n, hb⟩ := pow_ci h ox oy
  have hk' : sqrtK (powI x y).natAbs (fun n => k (.ofNat n)) = true := by
    unfold lngK at hk; rw [rnIK_eq] at hk; exact hk
  obtain ⟨s, r, m, e1, e2, hm, hkm⟩ := sqrt_narrow n hb hk'
  exact ⟨r, .ofNat m, by simp [longF, e, e1, e2], hm, hkm⟩

/-- 1/2, 1, 4 in units of 2^-149 -/
noncomputable def halfK : Int := .ofNat (Nat.pow 2 148)
noncomputable def oneK : Int := .ofNat (Nat.pow 2 149)
noncomputable def fourK : Int := .ofNat (Nat.pow 2 151)
theorem ni_half : NI 1056964608 halfK := num_lit .f32 1056964608 false 8388608 (-24) _ (by kernel_rfl) (by kernel_rfl)
theorem ni_one : NI 1065353216 oneK := num_lit .f32 1065353216 false 8388608 (-23) _ (by kernel_rfl) (by kernel_rfl)
theorem ni_four : NI 1082130432 fourK := num_lit .f32 1082130432 false 8388608 (-21) _ (by kernel_rfl) (by kernel_rfl)
theorem ni_zero : NI 0 (.ofNat 0) := num_lit .f32 0 false 0 (-149) _ (by kernel_rfl) (by kernel_rfl)
theorem ok_half : okI halfK = true := by rw [← okK_eq]; kernel_rfl
theorem ok_one : okI oneK = true := by rw [← okK_eq]; kernel_rfl
theorem ok_four : okI fourK = true := by rw [← okK_eq]; kernel_rfl
theorem ok_zero : okI (.ofNat 0) = true := by rw [← okK_eq]; kernel_rfl

noncomputable def rpK (s : Int) (k : Int → Bool) : Bool :=
  forceI (rnIK 24 149 (Int.mul halfK s)) fun h => okK h && Int.rec (fun n => sqrtK (Nat.shiftLeft n 149) fun m => k (.ofNat m)) (fun _ => k (.ofNat 0)) h

theorem rootNum_ci {a n : Nat} {k : Nat → Bool} (h : NI a (.ofNat n)) (o : okI (.ofNat n) = true) (hk : sqrtK (Nat.shiftLeft n 149) k = true) : ∃ r m, rootNumF a = some r ∧ NI r (m : Nat) ∧ k m = true := by
  obtain ⟨w, e, nw, _⟩ := widen_num h
  have e1 : ((Int.ofNat n : Int) : Rat) * 2 ^ (-149 : Int) = ((Nat.shiftLeft n 149 : Nat) : Rat) * 2 ^ (-298 : Int) := by
    have : ((Nat.shiftLeft n 149 : Nat) : Rat) = (n : Rat) * 2 ^ (149 : Int) := by
      have : Nat.shiftLeft n 149 = n * 2 ^ 149 := Nat.shiftLeft_eq n 149
      rw [this, show (2 : Rat) ^ (149 : Int) = ((2 ^ 149 : Nat) : Rat) from p2_nat 149]; push_cast; rfl
    rw [this, Rat.mul_assoc, ← p2_add]; rfl
  have hab := okI_ab o
  rw [e1] at nw hab
  have h61 : (2 : Rat) ^ (30 : Int) ≤ 2 ^ (61 : Int) := p2_mono (by decide)
  obtain ⟨s, r, m, f1, f2, hm, hkm⟩ := sqrt_narrow nw (by have := hab.2; grind) hk
  exact ⟨r, m, by simp [rootNumF, e, f1, f2], hm, hkm⟩

theorem num0' : NumK .f32 0 0 := num_lit .f32 0 false 0 (-149) 0 (by kernel_rfl) (by kernel_rfl)
theorem ni_nonneg_lt {h : Nat} {n : Nat} (hn : NI h (.ofNat n)) : (FloatKind.f32.format.order h 0 == some .lt) = false :=
  ord_nlt hn num0' (Rat.mul_nonneg (Rat.intCast_nonneg.2 (Int.natCast_nonneg n)) (Rat.le_of_lt (p2_pos _)))
theorem ni_neg_lt {h : Nat} {n : Nat} (hn : NI h (.negSucc n)) : (FloatKind.f32.format.order h 0 == some .lt) = true := by
  refine ord_lt hn (num_lit .f32 0 false 0 (-149) 0 (by kernel_rfl) (by kernel_rfl)) ?_
  have hp := p2_pos (-149)
  have h1 : ((Int.negSucc n : Int) : Rat) < 0 := Rat.intCast_neg_iff.2 (Int.negSucc_lt_zero n)
  have := Rat.mul_lt_mul_of_pos_right h1 hp
  rw [Rat.zero_mul] at this; exact this

theorem rootPartF_ge {a h : Nat} (e : fmul .f32 1056964608 a = some h) (hn : (FloatKind.f32.format.order h 0 == some .lt) = false) : rootPartF a = rootNumF h := by
  simp only [rootPartF, e, Option.bind_eq_bind, Option.bind_some, hn, Bool.false_eq_true, if_false]
theorem rootPartF_lt {a h : Nat} (e : fmul .f32 1056964608 a = some h) (hn : (FloatKind.f32.format.order h 0 == some .lt) = true) : rootPartF a = rootNumF 0 := by
  simp only [rootPartF, e, Option.bind_eq_bind, Option.bind_some, hn, if_true]

theorem rp_ci {a : Nat} {s : Int} {k : Int → Bool} (h : NI a s) (o : okI s = true) (hk : rpK s k = true) : ∃ r m, rootPartF a = some r ∧ NI r m ∧ k m = true := by
  obtain ⟨r, e, n⟩ := ni_mul ni_half h ok_half o
  unfold rpK at hk
  rw [forceI_eq, rnIK_eq] at hk
  have hk' : (okK (n32 (halfK * s)) && Int.rec (motive := fun _ => Bool) (fun n => sqrtK (Nat.shiftLeft n 149) fun m => k (.ofNat m)) (fun _ => k (.ofNat 0)) (n32 (halfK * s))) = true := hk
  generalize n32 (halfK * s) = q at *
  rw [Bool.and_eq_true, okK_eq] at hk'
  obtain ⟨oq, hk'⟩ := hk'
  cases q with
  | ofNat m =>
    obtain ⟨r2, m2, e2, n2, k2⟩ := rootNum_ci n oq hk'
    exact ⟨r2, .ofNat m2, by rw [rootPartF_ge e (ni_nonneg_lt n), e2], n2, k2⟩
  | negSucc m =>
    obtain ⟨r2, m2, e2, n2, k2⟩ := rootNum_ci (k := fun m => Nat.beq m 0) ni_zero ok_zero (by kernel_rfl)
    have : m2 = 0 := Nat.eq_of_beq_eq_true k2
    subst this
    exact ⟨r2, .ofNat 0, by rw [rootPartF_lt e (ni_neg_lt n), e2], n2, hk'⟩

noncomputable def rootK (a b : Int) (k : Int → Int → Bool) : Bool :=
  lngK a b fun l => okK l && forceI (rnIK 24 0 (Int.add l a)) fun s => okK s && rpK s fun u => forceI (rnIK 24 0 (Int.sub l a)) fun t => okK t && rpK t fun v => Int.rec (fun _ => k u v) (fun _ => k u (Int.neg v)) b

theorem ni_neg {a : Nat} {n : Int} (h : NI a n) : NI (Op.negFloat .f32 a) (-n) := by
  have := neg_num h
  have e : -((n : Rat) * 2 ^ (-149 : Int)) = ((-n : Int) : Rat) * 2 ^ (-149 : Int) := by rw [Rat.intCast_neg, Rat.neg_mul]
  rw [e] at this; exact this

theorem root_ci {a b : Nat} {x y : Int} {k : Int → Int → Bool} (h : CI a b x y) (ox : okI x = true) (oy : okI y = true) (hk : rootK x y k = true) :
    ∃ r u v, rootF a b = some r ∧ CI r.1 r.2 u v ∧ k u v = true := by
  obtain ⟨l, n, e1, n1, hk⟩ := lng_ci h ox oy hk
  rw [Bool.and_eq_true, okK_eq, forceI_eq, rnIK_eq] at hk
  obtain ⟨on, hk⟩ := hk
  obtain ⟨s, e2, n2⟩ := ni_add n1 h.1 on ox
  have hk : (okK (r32 (n + x)) && rpK (r32 (n + x)) fun u => forceI (rnIK 24 0 (Int.sub n x)) fun t => okK t && rpK t fun v => Int.rec (motive := fun _ => Bool) (fun _ => k u v) (fun _ => k u (Int.neg v)) y) = true := hk
  rw [Bool.and_eq_true, okK_eq] at hk
  obtain ⟨os, hk⟩ := hk
  obtain ⟨u, un, e3, n3, hk⟩ := rp_ci n2 os hk
  rw [forceI_eq, rnIK_eq] at hk
  obtain ⟨t, e4, n4⟩ := ni_sub n1 h.1 on ox
  have hk : (okK (r32 (n - x)) && rpK (r32 (n - x)) fun v => Int.rec (motive := fun _ => Bool) (fun _ => k un v) (fun _ => k un (Int.neg v)) y) = true := hk
  rw [Bool.and_eq_true, okK_eq] at hk
  obtain ⟨ot, hk⟩ := hk
  obtain ⟨v, vn, e5, n5, hk⟩ := rp_ci n4 ot hk
  cases y with
  | ofNat m => exact ⟨(u, v), un, vn, by simp [rootF, e1, e2, e3, e4, e5, ni_nonneg_lt h.2], ⟨n3, n5⟩, hk⟩
  | negSucc m => exact ⟨(u, Op.negFloat .f32 v), un, -vn, by simp [rootF, e1, e2, e3, e4, e5, ni_neg_lt h.2], ⟨n3, ni_neg n5⟩, hk⟩
end Go.Proofs.Ytjhicedblobjfaa
