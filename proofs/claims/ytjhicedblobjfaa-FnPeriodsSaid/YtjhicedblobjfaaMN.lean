/- Phasors as a partial function of bits, and those of k/n. No program in sight. · Walks: sines and phasors. -/
import Derived.Test.YtjhicedblobjfaaMK
import Derived.Test.YtjhicedblobjfaaA8
namespace Go.Proofs.Ytjhicedblobjfaa
open Ieee

/-- the sine's rounds: so many are left -/
def sinF : Nat → Nat → Nat → Option Nat
  | 0, _, p => some p
  | k + 1, u, p => do
    let m ← fmul .f64 u p
    let a ← fmul .f64 4611686018427387904 (floatOfInt .f64 ((k + 1 : Nat) : Int))
    let b ← fadd .f64 a 4607182418800017408
    let c ← fmul .f64 a b
    let q ← fdiv .f64 m c
    let p' ← fsub .f64 4607182418800017408 q
    sinF k u p'
/-- the sine of at most a quarter of a turn -/
def sineF (x : Nat) : Option Nat := do
  let z ← fmul .f64 x 4618760256179416344
  let u ← fmul .f64 z z
  let p ← sinF 8 u 4607182418800017408
  fmul .f64 z p
/-- the same, each number reckoned before it is used -/
noncomputable def bindK {β : Type} (o : Option Nat) (k : Nat → Option β) : Option β := match o with
  | none => none
  | some r => forceN r k
theorem bindK_eq {β : Type} (o : Option Nat) (k : Nat → Option β) : bindK o k = o >>= k := by
  cases o with
  | none => rfl
  | some r => exact forceN_eq r k
noncomputable def sinK : Nat → Nat → Nat → Option Nat
  | 0, _, p => some p
  | k + 1, u, p =>
    bindK (fmul .f64 u p) fun m => bindK (fmul .f64 4611686018427387904 (floatOfInt .f64 ((k + 1 : Nat) : Int))) fun a => bindK (fadd .f64 a 4607182418800017408) fun b =>
      bindK (fmul .f64 a b) fun c => bindK (fdiv .f64 m c) fun q => bindK (fsub .f64 4607182418800017408 q) fun p' => sinK k u p'
theorem sinK_eq : ∀ k u p, sinK k u p = sinF k u p
  | 0, _, _ => rfl
  | k + 1, u, p => by simp only [sinK, sinF, bindK_eq, sinK_eq k]
noncomputable def sineK (x : Nat) : Option Nat := bindK (fmul .f64 x 4618760256179416344) fun z => bindK (fmul .f64 z z) fun u => bindK (sinK 8 u 4607182418800017408) fun p => bindK (fmul .f64 z p) fun r => some r
theorem sineK_eq (x : Nat) : sineK x = sineF x := by
  simp only [sineK, sineF, bindK_eq, sinK_eq]
  simp
theorem sine_of {x r : Nat} (h : sineK x = some r) : sineF x = some r := by rw [← sineK_eq]; exact h
def geQ (f : Nat) : Bool := FloatKind.f64.format.order f 4598175219545276416 == some .gt || FloatKind.f64.format.order f 4598175219545276416 == some .eq
/-- quarters taken off -/
def quarF : Nat → Nat → Nat → Option (Nat × Nat)
  | 0, f, q => some (f, q)
  | n + 1, f, q => if geQ f then (do let f' ← fsub .f64 f 4598175219545276416; quarF n f' (q + 1)) else some (f, q)
/-- a sine and a cosine, turned by quarters -/
def turnF (q c s : Nat) : Option (Nat × Nat) :=
  if q = 1 then do let m ← fsub .f64 0 s; pure (m, c)
  else if q = 2 then do let m ← fsub .f64 0 c; let n ← fsub .f64 0 s; pure (m, n)
  else if q = 3 then do let m ← fsub .f64 0 c; pure (s, m)
  else pure (c, s)

set_option maxHeartbeats 0
/-- a number of turns from 0 to a quarter, that is its own fraction -/
structure SineOk (x : Nat) : Prop where
  num : ∃ v, NumK .f64 x v ∧ 0 ≤ v ∧ v ≤ 1 / 4
  frac : fsub .f64 x 0 = some x
  int : floatToIntVal .f64 x .i64 = some 0
theorem sineOk_of (x m : Nat) (e : Int) (hr : FloatKind.f64.format.read x = .number false m e) (hle : (m : Rat) * 2 ^ e ≤ 1 / 4) (hf : fsub .f64 x 0 = some x) (hi : floatToIntVal .f64 x .i64 = some 0) : SineOk x :=
  ⟨⟨_, num_lit .f64 x false m e _ hr rfl, Rat.mul_nonneg Rat.natCast_nonneg (Rat.le_of_lt (p2_pos e)), hle⟩, hf, hi⟩
theorem turns_of (x m : Nat) (e : Int) (hr : FloatKind.f64.format.read x = .number false m e) (hle : (m : Rat) * 2 ^ e < 1) : ∃ v, NumK .f64 x v ∧ 0 ≤ v ∧ v < 1 :=
  ⟨_, num_lit .f64 x false m e _ hr rfl, Rat.mul_nonneg Rat.natCast_nonneg (Rat.le_of_lt (p2_pos e)), hle⟩
/-- all that PhasorOf's walk asks -/
structure PhGood (t : Nat) (ph : Nat × Nat) : Prop where
  num : ∃ v, NumK .f64 t v ∧ 0 ≤ v ∧ v < 1
  lt : t < 2 ^ 63
  self : fsub .f64 t t = some 0
  frac : fsub .f64 t 0 = some t
  int : floatToIntVal .f64 t .i64 = some 0
  rest : ∃ f q g c s e, quarF 3 t 0 = some (f, q) ∧ q ≤ 3 ∧ geQ f = false ∧ fsub .f64 4598175219545276416 f = some g ∧ SineOk g ∧ SineOk f ∧ sineF g = some c ∧ sineF f = some s ∧ turnF q c s = some e ∧ narrow e.1 = some ph.1 ∧ narrow e.2 = some ph.2

theorem ph_0 : PhGood 0 (1065353216, 0) where
  num := turns_of 0 0 (-1074) (by kernel_rfl) (by decide +kernel)
  lt := by decide
  self := by kernel_rfl
  frac := by kernel_rfl
  int := by kernel_rfl
  rest := ⟨0, 0, 4598175219545276416, 4607182418800017604, 0, (4607182418800017604, 0), by kernel_rfl, by decide, by kernel_rfl, by kernel_rfl, (sineOk_of 4598175219545276416 4503599627370496 (-54) (by kernel_rfl) (by decide +kernel) (by kernel_rfl) (by kernel_rfl)), (sineOk_of 0 0 (-1074) (by kernel_rfl) (by decide +kernel) (by kernel_rfl) (by kernel_rfl)), sine_of (by kernel_rfl), sine_of (by kernel_rfl), by kernel_rfl, by kernel_rfl, by kernel_rfl⟩
theorem ph_4602678819172646912 : PhGood 4602678819172646912 (3212836864, 0) where
  num := turns_of 4602678819172646912 4503599627370496 (-53) (by kernel_rfl) (by decide +kernel)
  lt := by decide
  self := by kernel_rfl
  frac := by kernel_rfl
  int := by kernel_rfl
  rest := ⟨0, 2, 4598175219545276416, 4607182418800017604, 0, (13830554455654793412, 0), by kernel_rfl, by decide, by kernel_rfl, by kernel_rfl, (sineOk_of 4598175219545276416 4503599627370496 (-54) (by kernel_rfl) (by decide +kernel) (by kernel_rfl) (by kernel_rfl)), (sineOk_of 0 0 (-1074) (by kernel_rfl) (by decide +kernel) (by kernel_rfl) (by kernel_rfl)), sine_of (by kernel_rfl), sine_of (by kernel_rfl), by kernel_rfl, by kernel_rfl, by kernel_rfl⟩
theorem ph_4599676419421066581 : PhGood 4599676419421066581 (3204448256, 1063105495) where
  num := turns_of 4599676419421066581 6004799503160661 (-54) (by kernel_rfl) (by decide +kernel)
  lt := by decide
  self := by kernel_rfl
  frac := by kernel_rfl
  int := by kernel_rfl
  rest := ⟨4590669220166325588, 1, 4595172819793696086, 4605975682916830379, 4602678819172646909, (13826050856027422717, 4605975682916830379), by kernel_rfl, by decide, by kernel_rfl, by kernel_rfl, (sineOk_of 4595172819793696086 6004799503160662 (-55) (by kernel_rfl) (by decide +kernel) (by kernel_rfl) (by kernel_rfl)), (sineOk_of 4590669220166325588 6004799503160660 (-56) (by kernel_rfl) (by decide +kernel) (by kernel_rfl) (by kernel_rfl)), sine_of (by kernel_rfl), sine_of (by kernel_rfl), by kernel_rfl, by kernel_rfl, by kernel_rfl⟩
theorem ph_4604180019048437077 : PhGood 4604180019048437077 (3204448256, 3210589143) where
  num := turns_of 4604180019048437077 6004799503160661 (-53) (by kernel_rfl) (by decide +kernel)
  lt := by decide
  self := by kernel_rfl
  frac := by kernel_rfl
  int := by kernel_rfl
  rest := ⟨4595172819793696084, 2, 4590669220166325592, 4602678819172646913, 4605975682916830378, (13826050856027422721, 13829347719771606186), by kernel_rfl, by decide, by kernel_rfl, by kernel_rfl, (sineOk_of 4590669220166325592 6004799503160664 (-56) (by kernel_rfl) (by decide +kernel) (by kernel_rfl) (by kernel_rfl)), (sineOk_of 4595172819793696084 6004799503160660 (-55) (by kernel_rfl) (by decide +kernel) (by kernel_rfl) (by kernel_rfl)), sine_of (by kernel_rfl), sine_of (by kernel_rfl), by kernel_rfl, by kernel_rfl, by kernel_rfl⟩
theorem ph_4598175219545276416 : PhGood 4598175219545276416 (0, 1065353216) where
  num := turns_of 4598175219545276416 4503599627370496 (-54) (by kernel_rfl) (by decide +kernel)
  lt := by decide
  self := by kernel_rfl
  frac := by kernel_rfl
  int := by kernel_rfl
  rest := ⟨0, 1, 4598175219545276416, 4607182418800017604, 0, (0, 4607182418800017604), by kernel_rfl, by decide, by kernel_rfl, by kernel_rfl, (sineOk_of 4598175219545276416 4503599627370496 (-54) (by kernel_rfl) (by decide +kernel) (by kernel_rfl) (by kernel_rfl)), (sineOk_of 0 0 (-1074) (by kernel_rfl) (by decide +kernel) (by kernel_rfl) (by kernel_rfl)), sine_of (by kernel_rfl), sine_of (by kernel_rfl), by kernel_rfl, by kernel_rfl, by kernel_rfl⟩
theorem ph_4604930618986332160 : PhGood 4604930618986332160 (0, 3212836864) where
  num := turns_of 4604930618986332160 6755399441055744 (-53) (by kernel_rfl) (by decide +kernel)
  lt := by decide
  self := by kernel_rfl
  frac := by kernel_rfl
  int := by kernel_rfl
  rest := ⟨0, 3, 4598175219545276416, 4607182418800017604, 0, (0, 13830554455654793412), by kernel_rfl, by decide, by kernel_rfl, by kernel_rfl, (sineOk_of 4598175219545276416 4503599627370496 (-54) (by kernel_rfl) (by decide +kernel) (by kernel_rfl) (by kernel_rfl)), (sineOk_of 0 0 (-1074) (by kernel_rfl) (by decide +kernel) (by kernel_rfl) (by kernel_rfl)), sine_of (by kernel_rfl), sine_of (by kernel_rfl), by kernel_rfl, by kernel_rfl, by kernel_rfl⟩
theorem ph_4596373779694328218 : PhGood 4596373779694328218 (1050556282, 1064532081) where
  num := turns_of 4596373779694328218 7205759403792794 (-55) (by kernel_rfl) (by decide +kernel)
  lt := by decide
  self := by kernel_rfl
  frac := by kernel_rfl
  int := by kernel_rfl
  rest := ⟨4596373779694328218, 0, 4587366580439587224, 4599238375200778574, 4606741575090066693, (4599238375200778574, 4606741575090066693), by kernel_rfl, by decide, by kernel_rfl, by kernel_rfl, (sineOk_of 4587366580439587224 7205759403792792 (-57) (by kernel_rfl) (by decide +kernel) (by kernel_rfl) (by kernel_rfl)), (sineOk_of 4596373779694328218 7205759403792794 (-55) (by kernel_rfl) (by decide +kernel) (by kernel_rfl) (by kernel_rfl)), sine_of (by kernel_rfl), sine_of (by kernel_rfl), by kernel_rfl, by kernel_rfl, by kernel_rfl⟩
theorem ph_4600877379321698714 : PhGood 4600877379321698714 (3209632701, 1058437400) where
  num := turns_of 4600877379321698714 7205759403792794 (-54) (by kernel_rfl) (by decide +kernel)
  lt := by decide
  self := by kernel_rfl
  frac := by kernel_rfl
  int := by kernel_rfl
  rest := ⟨4594572339843380020, 1, 4591870180066957720, 4603469518431672925, 4605462196814083240, (13828834233668859048, 4603469518431672925), by kernel_rfl, by decide, by kernel_rfl, by kernel_rfl, (sineOk_of 4591870180066957720 7205759403792792 (-56) (by kernel_rfl) (by decide +kernel) (by kernel_rfl) (by kernel_rfl)), (sineOk_of 4594572339843380020 5404319552844596 (-55) (by kernel_rfl) (by decide +kernel) (by kernel_rfl) (by kernel_rfl)), sine_of (by kernel_rfl), sine_of (by kernel_rfl), by kernel_rfl, by kernel_rfl, by kernel_rfl⟩
theorem ph_4603579539098121011 : PhGood 4603579539098121011 (3209632701, 3205921048) where
  num := turns_of 4603579539098121011 5404319552844595 (-53) (by kernel_rfl) (by decide +kernel)
  lt := by decide
  self := by kernel_rfl
  frac := by kernel_rfl
  int := by kernel_rfl
  rest := ⟨4591870180066957720, 2, 4594572339843380020, 4605462196814083240, 4603469518431672925, (13828834233668859048, 13826841555286448733), by kernel_rfl, by decide, by kernel_rfl, by kernel_rfl, (sineOk_of 4594572339843380020 5404319552844596 (-55) (by kernel_rfl) (by decide +kernel) (by kernel_rfl) (by kernel_rfl)), (sineOk_of 4591870180066957720 7205759403792792 (-56) (by kernel_rfl) (by decide +kernel) (by kernel_rfl) (by kernel_rfl)), sine_of (by kernel_rfl), sine_of (by kernel_rfl), by kernel_rfl, by kernel_rfl, by kernel_rfl⟩
theorem ph_4605380978949069210 : PhGood 4605380978949069210 (1050556282, 3212015729) where
  num := turns_of 4605380978949069210 7205759403792794 (-53) (by kernel_rfl) (by decide +kernel)
  lt := by decide
  self := by kernel_rfl
  frac := by kernel_rfl
  int := by kernel_rfl
  rest := ⟨4587366580439587232, 3, 4596373779694328216, 4606741575090066692, 4599238375200778580, (4599238375200778580, 13830113611944842500), by kernel_rfl, by decide, by kernel_rfl, by kernel_rfl, (sineOk_of 4596373779694328216 7205759403792792 (-55) (by kernel_rfl) (by decide +kernel) (by kernel_rfl) (by kernel_rfl)), (sineOk_of 4587366580439587232 7205759403792800 (-57) (by kernel_rfl) (by decide +kernel) (by kernel_rfl) (by kernel_rfl)), sine_of (by kernel_rfl), sine_of (by kernel_rfl), by kernel_rfl, by kernel_rfl, by kernel_rfl⟩
theorem ph_4595172819793696085 : PhGood 4595172819793696085 (1056964608, 1063105495) where
  num := turns_of 4595172819793696085 6004799503160661 (-55) (by kernel_rfl) (by decide +kernel)
  lt := by decide
  self := by kernel_rfl
  frac := by kernel_rfl
  int := by kernel_rfl
  rest := ⟨4595172819793696085, 0, 4590669220166325590, 4602678819172646912, 4605975682916830378, (4602678819172646912, 4605975682916830378), by kernel_rfl, by decide, by kernel_rfl, by kernel_rfl, (sineOk_of 4590669220166325590 6004799503160662 (-56) (by kernel_rfl) (by decide +kernel) (by kernel_rfl) (by kernel_rfl)), (sineOk_of 4595172819793696085 6004799503160661 (-55) (by kernel_rfl) (by decide +kernel) (by kernel_rfl) (by kernel_rfl)), sine_of (by kernel_rfl), sine_of (by kernel_rfl), by kernel_rfl, by kernel_rfl, by kernel_rfl⟩
theorem ph_4605681218924227243 : PhGood 4605681218924227243 (1056964608, 3210589143) where
  num := turns_of 4605681218924227243 7505999378950827 (-53) (by kernel_rfl) (by decide +kernel)
  lt := by decide
  self := by kernel_rfl
  frac := by kernel_rfl
  int := by kernel_rfl
  rest := ⟨4590669220166325592, 3, 4595172819793696084, 4605975682916830378, 4602678819172646913, (4602678819172646913, 13829347719771606186), by kernel_rfl, by decide, by kernel_rfl, by kernel_rfl, (sineOk_of 4595172819793696084 6004799503160660 (-55) (by kernel_rfl) (by decide +kernel) (by kernel_rfl) (by kernel_rfl)), (sineOk_of 4590669220166325592 6004799503160664 (-56) (by kernel_rfl) (by decide +kernel) (by kernel_rfl) (by kernel_rfl)), sine_of (by kernel_rfl), sine_of (by kernel_rfl), by kernel_rfl, by kernel_rfl, by kernel_rfl⟩

/-- the number of turns of the k-th of n roots -/
theorem ph_all (n k : Nat) (hn2 : 2 ≤ n) (hn6 : n ≤ 6) (hk : k < n) : ∃ t, fdiv .f64 (floatOfInt .f64 (k : Int)) (floatOfInt .f64 (n : Int)) = some t ∧ PhGood t (phN n k) := by
  have : n = 2 ∨ n = 3 ∨ n = 4 ∨ n = 5 ∨ n = 6 := by omega
  rcases this with rfl | rfl | rfl | rfl | rfl
  · have : k = 0 ∨ k = 1 := by omega
    rcases this with rfl | rfl
    · exact ⟨0, by kernel_rfl, ph_0⟩
    · exact ⟨4602678819172646912, by kernel_rfl, ph_4602678819172646912⟩
  · have : k = 0 ∨ k = 1 ∨ k = 2 := by omega
    rcases this with rfl | rfl | rfl
    · exact ⟨0, by kernel_rfl, ph_0⟩
    · exact ⟨4599676419421066581, by kernel_rfl, ph_4599676419421066581⟩
    · exact ⟨4604180019048437077, by kernel_rfl, ph_4604180019048437077⟩
  · have : k = 0 ∨ k = 1 ∨ k = 2 ∨ k = 3 := by omega
    rcases this with rfl | rfl | rfl | rfl
    · exact ⟨0, by kernel_rfl, ph_0⟩
    · exact ⟨4598175219545276416, by kernel_rfl, ph_4598175219545276416⟩
    · exact ⟨4602678819172646912, by kernel_rfl, ph_4602678819172646912⟩
    · exact ⟨4604930618986332160, by kernel_rfl, ph_4604930618986332160⟩
  · have : k = 0 ∨ k = 1 ∨ k = 2 ∨ k = 3 ∨ k = 4 := by omega
    rcases this with rfl | rfl | rfl | rfl | rfl
    · exact ⟨0, by kernel_rfl, ph_0⟩
    · exact ⟨4596373779694328218, by kernel_rfl, ph_4596373779694328218⟩
    · exact ⟨4600877379321698714, by kernel_rfl, ph_4600877379321698714⟩
    · exact ⟨4603579539098121011, by kernel_rfl, ph_4603579539098121011⟩
    · exact ⟨4605380978949069210, by kernel_rfl, ph_4605380978949069210⟩
  · have : k = 0 ∨ k = 1 ∨ k = 2 ∨ k = 3 ∨ k = 4 ∨ k = 5 := by omega
    rcases this with rfl | rfl | rfl | rfl | rfl | rfl
    · exact ⟨0, by kernel_rfl, ph_0⟩
    · exact ⟨4595172819793696085, by kernel_rfl, ph_4595172819793696085⟩
    · exact ⟨4599676419421066581, by kernel_rfl, ph_4599676419421066581⟩
    · exact ⟨4602678819172646912, by kernel_rfl, ph_4602678819172646912⟩
    · exact ⟨4604180019048437077, by kernel_rfl, ph_4604180019048437077⟩
    · exact ⟨4605681218924227243, by kernel_rfl, ph_4605681218924227243⟩
end Go.Proofs.Ytjhicedblobjfaa

namespace Go.Proofs.Ytjhicedblobjfaa
open Go.RowKit Ieee

section
set_option maxHeartbeats 0
set_option maxRecDepth 100000

theorem fraction_any (x : Nat) (v : Rat) (w : World) (h : NumK .f64 x v) (h0 : 0 ≤ v) (hf : fsub .f64 x 0 = some x) (hi : floatToIntVal .f64 x .i64 = some 0) :
    Calls Try.prog 64 #[.float .f64 x] w fun e w' => e = .returned (.float .f64 x) ∧ w = w' := by
  have hc : ∀ w, (convert 40 2 (.float .f64 x)).run Try.prog w = .ok (.int .i64 0) w := fun w => run_convert_float_int w _ _ _ _ _ _ (by kernel_rfl) (by kernel_rfl) hi
  have ho := ord_nlt h l64_zero h0
  have hz : floatOfInt .f64 0 = 0 := by kernel_rfl
  clear h h0 hi
  go_enter Try.func64, Try.ntmps64
  go_wp2
  go_ret
  exact ⟨rfl, rfl⟩

theorem sinF_dec (j : Nat) (hj : j < 8) : fsub .f64 (floatOfInt .f64 ((j + 1 : Nat) : Int)) 4607182418800017408 = some (floatOfInt .f64 (j : Int)) := by
  have : j = 0 ∨ j = 1 ∨ j = 2 ∨ j = 3 ∨ j = 4 ∨ j = 5 ∨ j = 6 ∨ j = 7 := by omega
  rcases this with rfl | rfl | rfl | rfl | rfl | rfl | rfl | rfl
  all_goals (show fsub .f64 _ _ = some _; kernel_rfl)
theorem num_nat (j : Nat) (hj : j ≤ 8) : NumK .f64 (floatOfInt .f64 (j : Int)) ((j : Int) : Rat) := ofInt_num (k := .f64) (j : Int) (by omega)

theorem sine_any (x r : Nat) (w : World) (hx : SineOk x) (h : sineF x = some r) :
    Calls Try.prog 65 #[.float .f64 x] w fun e w' => e = .returned (.float .f64 r) ∧ w = w' := by
  obtain ⟨⟨v, nv, v0, v1⟩, hfr, hin⟩ := hx
  obtain ⟨z, e1, h⟩ := bindS h
  obtain ⟨u, e2, h⟩ := bindS h
  obtain ⟨P, hP, e3⟩ := bindS h
  have HF := Lib.hid (fun w => fraction_any x v w nv v0 hfr hin)
  have o1 := ord_nge nv (show NumK .f64 4602678819172646912 (1 / 2) from num_lit .f64 4602678819172646912 false 4503599627370496 (-53) (1 / 2) (by kernel_rfl) (by kernel_rfl)) (by grind)
  have o2 := ord_ngt nv (show NumK .f64 4598175219545276416 (1 / 4) from num_lit .f64 4598175219545276416 false 4503599627370496 (-54) (1 / 4) (by kernel_rfl) (by kernel_rfl)) v1
  have HP := Lib.hid hP
  have e8 : floatOfInt .f64 ((8 : Nat) : Int) = 4620693217682128896 := by kernel_rfl
  have E8 := Lib.hid e8
  clear nv v0 v1 hfr hin h hP e8
  go_enter Try.func65, Try.ntmps65
  go_wp2_with (go_at_call 64; refine (HF.out _).mono ?_; rintro e w' ⟨rfl, rfl⟩)
  clear o1 o2 e1 e2
  go_loop [7, 8] (fun pp kk => ∃ (j p kb : Nat), j ≤ 8 ∧ pp = .float .f64 p ∧ kk = .float .f64 kb ∧ Hid (kb = floatOfInt .f64 (j : Int) ∧ sinF j u p = some P)) (fun _ kk => (fint kk).toNat)
  case atStart => exact ⟨8, _, _, by omega, rfl, rfl, E8.out.symm, HP.out⟩
  case round =>
    obtain ⟨j, p, kb, hj, rfl, rfl, HE⟩ := hrel
    obtain ⟨hkb, hE⟩ := HE.out
    have nk := num_nat j hj
    rw [← hkb] at nk
    by_cases hj0 : j = 0
    · have ho := ord_nge nk l64_one (by subst hj0; decide +kernel)
      have hE' : some p = some P := by subst hj0; exact hE
      simp only [Option.some.injEq] at hE'
      subst hE'
      clear hE nk hkb HE HP
      go_wp2
      go_ret
      exact ⟨rfl, rfl⟩
    · obtain ⟨i, rfl⟩ : ∃ i, j = i + 1 := ⟨j - 1, by omega⟩
      have h1 : (1 : Rat) ≤ (((i + 1 : Nat) : Int) : Rat) := Rat.intCast_le_intCast.2 (show (1 : Int) ≤ ((i + 1 : Nat) : Int) by omega)
      have ho := ord_ge nk l64_one h1
      obtain ⟨m, f1, hE⟩ := bindS hE
      obtain ⟨a, f2, hE⟩ := bindS hE
      obtain ⟨b, f3, hE⟩ := bindS hE
      obtain ⟨c, f4, hE⟩ := bindS hE
      obtain ⟨q, f5, hE⟩ := bindS hE
      obtain ⟨p', f6, hE⟩ := bindS hE
      rw [← hkb] at f2
      have f7 := sinF_dec i (by omega)
      rw [← hkb] at f7
      obtain ⟨kc, hkc⟩ : ∃ kc, kc = floatOfInt .f64 (i : Int) := ⟨_, rfl⟩
      rw [← hkc] at f7
      have nc := num_nat i (by omega)
      rw [← hkc] at nc
      have hm1 := fint_eq nk
      have hm2 := fint_eq nc
      have HM : Hid (fint (.float .f64 kc) = fint (.float .f64 kb) - 1 ∧ 0 < fint (.float .f64 kb)) := ⟨by rw [hm1, hm2]; omega, by rw [hm1]; omega⟩
      have HE2 : Hid (kc = floatOfInt .f64 (i : Int) ∧ sinF i u p' = some P) := ⟨hkc, hE⟩
      clear hE nk hkb HE HP h1 hm1 hm2 nc hkc hj0
      go_wp2
      go_round
      case rel => exact ⟨i, p', kc, by omega, rfl, rfl, HE2⟩
      case measure => have := HM.out; simp; omega

theorem isFinite64_yes (t : Nat) (w : World) (h : fsub .f64 t t = some 0) :
    Calls Try.prog 61 #[.float .f64 t] w fun e w' => e = .returned (.bool true) ∧ w = w' := by
  have ho := ord_eq l64_zero l64_zero
  go_enter Try.func61, Try.ntmps61
  go_wp2
  go_ret
  exact ⟨rfl, rfl⟩

theorem phasorOf_any (t : Nat) (ph : Nat × Nat) (w : World) (h : PhGood t ph) :
    Calls Try.prog 15 #[.float .f64 t] w fun e w' => e = .returned (.complex .f32 ph.1 ph.2) ∧ w = w' := by
  obtain ⟨v, nv, v0, v1⟩ := h.num
  obtain ⟨F, Q, g, c, s, e, hq, hQ3, hF, hg, gok, fok, hc, hs, he, n1, n2⟩ := h.rest
  have K1 := Lib.hid (fun w => isFinite64_yes t w h.self)
  have habs : absBits t = t := by unfold absBits; exact Nat.mod_eq_of_lt h.lt
  have K2 : Hid (∀ w, Calls Try.prog 63 #[.float .f64 t] w fun e w' => e = .returned (.float .f64 t) ∧ w = w') := fun w => by
    have := abs_any t (Nat.lt_of_lt_of_le h.lt (by decide)) w
    rw [habs] at this; exact this
  have ho := ord_nge nv (show NumK .f64 4841369599423283200 (2 ^ (52 : Int)) from num_lit .f64 4841369599423283200 false 4503599627370496 0 _ (by kernel_rfl) (by decide +kernel)) (by have : (1 : Rat) ≤ 2 ^ (52 : Int) := one_le_p2_nat 52; grind)
  have K3 := Lib.hid (fun w => fraction_any t v w nv v0 h.frac h.int)
  have K4 := Lib.hid (fun w => sine_any g c w gok hc)
  have K5 := Lib.hid (fun w => sine_any F s w fok hs)
  have HQ := Lib.hid hq
  have HF := Lib.hid hF
  have HE := Lib.hid he
  have HG := Lib.hid hg
  have N1 := Lib.hid n1
  have N2 := Lib.hid n2
  clear nv v0 v1 habs hq hF gok fok hc hs he h hg n1 n2
  go_enter Try.func15, Try.ntmps15
  go_wp2_with fail
  refine (K1.out _).mono ?_
  rintro e w' ⟨rfl, rfl⟩
  go_wp2_with fail
  refine (K2.out _).mono ?_
  rintro e w' ⟨rfl, rfl⟩
  go_wp2_with fail
  refine (K3.out _).mono ?_
  rintro e w' ⟨rfl, rfl⟩
  go_wp2_with fail
  clear ho
  go_loop [4, 5] (fun ff qq => ∃ (j f q : Nat), j ≤ 3 ∧ q + j = 3 ∧ ff = .float .f64 f ∧ qq = .int .i64 q ∧ Hid (quarF j f q = some (F, Q))) (fun _ qq => 3 - (intOf qq).toNat)
  case atStart => exact ⟨3, t, 0, by omega, by omega, rfl, rfl, HQ⟩
  case round =>
    obtain ⟨j, f, q, hj, hqj, rfl, rfl, HQJ⟩ := hrel
    have hE := HQJ.out
    by_cases hge : geQ f = true
    · obtain ⟨i, rfl⟩ : ∃ i, j = i + 1 := by
        rcases j with _ | i
        · exfalso
          have hE' : some (f, q) = some (F, Q) := hE
          simp only [Option.some.injEq, Prod.mk.injEq] at hE'
          rw [hE'.1, HF.out] at hge; cases hge
        · exact ⟨i, rfl⟩
      unfold quarF at hE
      rw [if_pos hge] at hE
      obtain ⟨f', e1, hE⟩ := bindS hE
      have HE2 := Lib.hid hE
      unfold geQ at hge
      clear hE HQJ
      go_wp2
      go_round
      case rel => exact ⟨i, f', q + 1, by omega, by omega, rfl, by go_num, HE2⟩
      case measure => simp [intOf]; omega
    · have hge : geQ f = false := by simpa using hge
      have hE' : f = F ∧ q = Q := by
        rcases j with _ | i
        · have hE' : some (f, q) = some (F, Q) := hE
          simp only [Option.some.injEq, Prod.mk.injEq] at hE'
          exact hE'
        · unfold quarF at hE
          rw [if_neg (by rw [hge]; decide)] at hE
          simp only [Option.some.injEq, Prod.mk.injEq] at hE
          exact hE
      obtain ⟨rfl, rfl⟩ := hE'
      unfold geQ at hge
      have hg := HG.out
      clear hE HQJ HF HQ HG
      go_wp2_with fail
      refine (K4.out _).mono ?_
      rintro e' w' ⟨rfl, rfl⟩
      go_wp2_with fail
      refine (K5.out _).mono ?_
      rintro e' w' ⟨rfl, rfl⟩
      clear hge hg
      have he := HE.out
      clear HE
      unfold turnF at he
      have hq4 : q = 0 ∨ q = 1 ∨ q = 2 ∨ q = 3 := by omega
      rcases hq4 with rfl | rfl | rfl | rfl
      · rw [if_neg (by decide), if_neg (by decide), if_neg (by decide)] at he
        cases he
        have n1 := N1.out
        have n2 := N2.out
        go_wp2
        go_ret
        exact ⟨rfl, rfl⟩
      · rw [if_pos rfl] at he
        obtain ⟨m, f1, he⟩ := bindS he
        cases he
        have n1 := N1.out
        have n2 := N2.out
        go_wp2
        go_ret
        exact ⟨rfl, rfl⟩
      · rw [if_neg (by decide), if_pos rfl] at he
        obtain ⟨m, f1, he⟩ := bindS he
        obtain ⟨n, f2, he⟩ := bindS he
        cases he
        have n1 := N1.out
        have n2 := N2.out
        go_wp2
        go_ret
        exact ⟨rfl, rfl⟩
      · rw [if_neg (by decide), if_neg (by decide), if_pos rfl] at he
        obtain ⟨m, f1, he⟩ := bindS he
        cases he
        have n1 := N1.out
        have n2 := N2.out
        go_wp2
        go_ret
        exact ⟨rfl, rfl⟩
end
end Go.Proofs.Ytjhicedblobjfaa
