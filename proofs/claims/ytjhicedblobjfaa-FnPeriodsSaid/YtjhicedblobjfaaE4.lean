/- The fast reckoning: what rests, hearts, and orbits that do not go out. -/
import Derived.Test.YtjhicedblobjfaaE3
namespace Go.Proofs.Ytjhicedblobjfaa
open Ieee

/-- p of all numbers below n -/
noncomputable def allB (n : Nat) (p : Nat → Bool) : Bool := Nat.rec true (fun m ih => p m && ih) n
theorem allB_ok {p : Nat → Bool} : ∀ {n : Nat}, allB n p = true → ∀ m, m < n → p m = true
  | 0, _, m, hm => absurd hm (by omega)
  | n + 1, h, m, hm => by
    have h' : (p n && allB n p) = true := h
    rw [Bool.and_eq_true] at h'
    by_cases e : m = n
    · subst e; exact h'.1
    · exact allB_ok h'.2 m (by omega)
/-- eighths from -2 to 2 -/
noncomputable def gridK (f : Int → Int → Bool) (i j : Nat) : Bool := forceI (latK (Int.sub (.ofNat i) 16)) fun a => forceI (latK (Int.sub (.ofNat j) 16)) fun b => f a b

theorem lat_ni {b : Nat} {k : Int} (h : NumK .f32 b ((k : Rat) / 8)) : NI b (latK k) := by
  have e : ((latK k : Int) : Rat) * 2 ^ (-149 : Int) = (k : Rat) / 8 := by
    have e1 : latK k = k * ((2 ^ 146 : Nat) : Int) := rfl
    have e2 : (((2 ^ 146 : Nat) : Int) : Rat) = 2 ^ (146 : Int) := lit_p2 146
    rw [e1, Rat.intCast_mul, e2, Rat.mul_assoc, ← p2_add]
    have : (2 : Rat) ^ (146 + -149 : Int) = 1 / 8 := by decide +kernel
    rw [this]; grind
  unfold NI; rw [e]; exact h
theorem grid_ok {f : Int → Int → Bool} (h : allB 33 (fun i => allB 33 (gridK f i)) = true) (i j : Int) (i0 : -16 ≤ i) (i1 : i ≤ 16) (j0 : -16 ≤ j) (j1 : j ≤ 16) : f (latK i) (latK j) = true := by
  have h1 := allB_ok (allB_ok h (i + 16).toNat (by omega)) (j + 16).toNat (by omega)
  unfold gridK at h1
  rw [forceI_eq, forceI_eq] at h1
  have e1 : Int.sub (.ofNat (i + 16).toNat) 16 = i := by show ((i + 16).toNat : Int) - 16 = i; omega
  have e2 : Int.sub (.ofNat (j + 16).toNat) 16 = j := by show ((j + 16).toNat : Int) - 16 = j; omega
  rw [e1, e2] at h1
  exact h1

/-! ### what a square makes -/
noncomputable def sqK {α : Type} (ca cb a b : Int) (k : Int → Int → α) : α := mulK a b a b fun u v => addK u v ca cb k
def sqI (ca cb a b : Int) : Int × Int := addI (mulI a b a b).1 (mulI a b a b).2 ca cb
theorem sqK_eq {α : Type} (ca cb a b : Int) (k : Int → Int → α) : sqK ca cb a b k = k (sqI ca cb a b).1 (sqI ca cb a b).2 := by
  unfold sqK; rw [mulK_eq, addK_eq]; rfl
noncomputable def ok2 (a b : Int) : Bool := okK a && okK b
theorem ok2_eq {a b : Int} (h : ok2 a b = true) : okI a = true ∧ okI b = true := by
  unfold ok2 at h; rw [Bool.and_eq_true, okK_eq, okK_eq] at h; exact h
theorem sq_ci {za zb ca cb : Nat} {a b x y : Int} (hz : CI za zb a b) (hc : CI ca cb x y) (oz : ok2 a b = true) (oc : ok2 x y = true) (om : ok2 (mulI a b a b).1 (mulI a b a b).2 = true) :
    ∃ r, onceF 0 ca cb za zb = some r ∧ CI r.1 r.2 (sqI x y a b).1 (sqI x y a b).2 := by
  obtain ⟨p, e1, n1⟩ := ci_mul hz hz (ok2_eq oz).1 (ok2_eq oz).2 (ok2_eq oz).1 (ok2_eq oz).2
  obtain ⟨r, e2, n2⟩ := ci_add n1 hc (ok2_eq om).1 (ok2_eq om).2 (ok2_eq oc).1 (ok2_eq oc).2
  refine ⟨r, ?_, n2⟩
  unfold onceF
  rw [if_neg (by decide), if_neg (by decide), if_neg (by decide)]
  simp [e1, e2]

/-! ### escapes -/
/-- the power, narrowed, is at most 4 -/
noncomputable def inK (a b : Int) : Bool := forceI (rnIK 24 149 (rnIK 53 0 (Int.add (Int.mul a a) (Int.mul b b)))) fun p => Int.rec (fun n => Nat.ble n (Nat.pow 2 151)) (fun _ => true) p
theorem powerF_ci {a b : Nat} {x y : Int} (h : CI a b x y) (ox : okI x = true) (oy : okI y = true) : ∃ r, powerF a b = some r ∧ NI r (n32 (powI x y)) := by
  obtain ⟨r, p, q, e, n, k1, k2⟩ := powerF_num h.num (okI_ab ox) (okI_ab oy) Rat.le_refl
  have e1 : (x : Rat) * 2 ^ (-149 : Int) * ((x : Rat) * 2 ^ (-149 : Int)) + (y : Rat) * 2 ^ (-149 : Int) * ((y : Rat) * 2 ^ (-149 : Int)) = ((x * x + y * y : Int) : Rat) * 2 ^ (-298 : Int) := by
    rw [← p298, Rat.intCast_add, Rat.intCast_mul, Rat.intCast_mul]; grind
  rw [e1] at k1
  have u := near_unique k1 (r64_near _)
  subst u
  have v := near_unique k2 (n32_near _)
  subst v
  exact ⟨r, e, n⟩
theorem outB_num {p : Nat} {v : Rat} (h : NumK .f32 p v) : outB p = decide (4 < v) := by
  unfold outB
  have h2 : (FloatKind.f32.format.order p p != some .eq) = false := by have := ord_eq h h; simp only [bne, this]; rfl
  rw [h2, Bool.or_false]
  by_cases hv : 4 < v
  · rw [ord_gt h four32 hv]; simp [hv]
  · rw [ord_ngt h four32 (by grind)]; simp [hv]
theorem ni_le {p : Nat} {n : Int} {m : Nat} (h : NI p n) (hn : n ≤ ((2 ^ m : Nat) : Int)) : ∃ v, NumK .f32 p v ∧ v ≤ 2 ^ ((m : Int) - 149) := by
  refine ⟨_, h, ?_⟩
  have h1 := Rat.mul_le_mul_of_nonneg_right (Rat.intCast_le_intCast.2 hn) (Rat.le_of_lt (p2_pos (-149)))
  have e : (((2 ^ m : Nat) : Int) : Rat) * 2 ^ (-149 : Int) = 2 ^ ((m : Int) - 149) := by
    have e2 : (((2 ^ m : Nat) : Int) : Rat) = 2 ^ (m : Int) := lit_p2 m
    rw [e2, ← p2_add]; rfl
  rw [e] at h1; exact h1
theorem in_ci {a b : Nat} {x y : Int} (h : CI a b x y) (ox : okI x = true) (oy : okI y = true) (hk : inK x y = true) : ∃ p, powerF a b = some p ∧ outB p = false := by
  obtain ⟨p, e, n⟩ := powerF_ci h ox oy
  refine ⟨p, e, ?_⟩
  unfold inK at hk
  rw [forceI_eq, rnIK_eq, rnIK_eq] at hk
  have hk : Int.rec (motive := fun _ => Bool) (fun n => Nat.ble n (Nat.pow 2 151)) (fun _ => true) (n32 (powI x y)) = true := hk
  have hle : n32 (powI x y) ≤ ((2 ^ 151 : Nat) : Int) := by
    cases hq : n32 (powI x y) with
    | ofNat m => rw [hq] at hk; exact Int.ofNat_le.2 (Nat.le_of_ble_eq_true hk)
    | negSucc m => have := Int.negSucc_lt_zero m; have : (0 : Int) ≤ ((2 ^ 151 : Nat) : Int) := Int.natCast_nonneg _; omega
  obtain ⟨v, hv, hv4⟩ := ni_le n hle
  rw [outB_num hv]
  have e4 : (2 : Rat) ^ (((151 : Nat) : Int) - 149) = 4 := by decide +kernel
  rw [e4] at hv4
  simp only [decide_eq_false_iff_not]; grind

/-- n steps of the orbit of a square are not out -/
noncomputable def escK (ca cb : Int) (n : Nat) : Int → Int → Bool :=
  Nat.rec (fun _ _ => true) (fun _ f a b => ok2 a b && inK a b && mulK a b a b fun u v => ok2 u v && addK u v ca cb f) n
theorem esc_ci {za zb : Nat} {ca cb : Int} (hc : CI za zb ca cb) (oc : ok2 ca cb = true) : ∀ (n i : Nat) {a b : Nat} {x y : Int}, CI a b x y → escK ca cb n x y = true → ∃ u v, escF 0 za zb n i a b = some (i + n, u, v)
  | 0, i, a, b, x, y, _, _ => ⟨a, b, rfl⟩
  | n + 1, i, a, b, x, y, h, hk => by
    have hk : (ok2 x y && inK x y && mulK x y x y fun u v => ok2 u v && addK u v ca cb (escK ca cb n)) = true := hk
    rw [mulK_eq, addK_eq, Bool.and_eq_true, Bool.and_eq_true, Bool.and_eq_true] at hk
    obtain ⟨⟨h1, h2⟩, h3, h4⟩ := hk
    obtain ⟨p, ep, ho⟩ := in_ci h (ok2_eq h1).1 (ok2_eq h1).2 h2
    obtain ⟨r, er, nr⟩ := sq_ci h hc h1 oc h3
    obtain ⟨u, v, huv⟩ := esc_ci hc oc n (i + 1) nr h4
    refine ⟨u, v, ?_⟩
    simp only [escF, ep, Option.bind_eq_bind, Option.bind_some, ho, Bool.false_eq_true, if_false, er, huv]
    congr 2; omega

/-! ### hearts -/
def heartF (a b : Nat) : Option Bool := do
  let x ← fsub .f32 a 1048576000
  let z ← fadd .f32 a 1065353216
  let xx ← fmul .f32 x x
  let yy ← fmul .f32 b b
  let q ← fadd .f32 xx yy
  let qx ← fadd .f32 q x
  let l ← fmul .f32 q qx
  let m ← fmul .f32 1048576000 b
  let r ← fmul .f32 m b
  if le32 l r then pure true else do
    let zz ← fmul .f32 z z
    let s ← fadd .f32 zz yy
    pure (le32 s 1031798784)

noncomputable def f32mK (a b : Int) (k : Int → Bool) : Bool := forceI (rnIK 24 149 (Int.mul a b)) fun c => okK c && k c
noncomputable def f32aK (a b : Int) (k : Int → Bool) : Bool := forceI (rnIK 24 0 (Int.add a b)) fun c => okK c && k c
noncomputable def f32sK (a b : Int) (k : Int → Bool) : Bool := forceI (rnIK 24 0 (Int.sub a b)) fun c => okK c && k c
theorem f32m {a b : Nat} {x y : Int} {k : Int → Bool} (ha : NI a x) (hb : NI b y) (oa : okI x = true) (ob : okI y = true) (hk : f32mK x y k = true) : ∃ r n, fmul .f32 a b = some r ∧ NI r n ∧ okI n = true ∧ k n = true := by
  obtain ⟨r, e, n⟩ := ni_mul ha hb oa ob
  unfold f32mK at hk
  rw [forceI_eq, rnIK_eq, Bool.and_eq_true, okK_eq] at hk
  exact ⟨r, _, e, n, hk.1, hk.2⟩
theorem f32a {a b : Nat} {x y : Int} {k : Int → Bool} (ha : NI a x) (hb : NI b y) (oa : okI x = true) (ob : okI y = true) (hk : f32aK x y k = true) : ∃ r n, fadd .f32 a b = some r ∧ NI r n ∧ okI n = true ∧ k n = true := by
  obtain ⟨r, e, n⟩ := ni_add ha hb oa ob
  unfold f32aK at hk
  rw [forceI_eq, rnIK_eq, Bool.and_eq_true, okK_eq] at hk
  exact ⟨r, _, e, n, hk.1, hk.2⟩
theorem f32s {a b : Nat} {x y : Int} {k : Int → Bool} (ha : NI a x) (hb : NI b y) (oa : okI x = true) (ob : okI y = true) (hk : f32sK x y k = true) : ∃ r n, fsub .f32 a b = some r ∧ NI r n ∧ okI n = true ∧ k n = true := by
  obtain ⟨r, e, n⟩ := ni_sub ha hb oa ob
  unfold f32sK at hk
  rw [forceI_eq, rnIK_eq, Bool.and_eq_true, okK_eq] at hk
  exact ⟨r, _, e, n, hk.1, hk.2⟩
/-- n ≤ m -/
noncomputable def leK (n m : Int) : Bool := Int.rec (fun _ => true) (fun _ => false) (Int.sub m n)
theorem leK_iff (n m : Int) : leK n m = decide (n ≤ m) := by
  have e : m - n = Int.sub m n := rfl
  unfold leK
  rw [← e]
  cases h : m - n with
  | ofNat k => simp; have := Int.natCast_nonneg k; have h' : m - n = (k : Int) := h; omega
  | negSucc k => simp; have := Int.negSucc_lt_zero k; omega
theorem le32_ci {a b : Nat} {x y : Int} (ha : NI a x) (hb : NI b y) : le32 a b = leK x y := by
  rw [le32_num ha hb, leK_iff]
  have hp := p2_pos (-149)
  by_cases h : x ≤ y
  · have := Rat.mul_le_mul_of_nonneg_right (Rat.intCast_le_intCast.2 h) (Rat.le_of_lt hp)
    simp [h, this]
  · have h2 : ¬ (x : Rat) * 2 ^ (-149 : Int) ≤ (y : Rat) * 2 ^ (-149 : Int) := by
      have := Rat.mul_lt_mul_of_pos_right (Rat.intCast_lt_intCast.2 (show y < x by omega)) hp
      grind
    simp [h, h2]

noncomputable def quarterK : Int := .ofNat (Nat.pow 2 147)
noncomputable def sixteenthK : Int := .ofNat (Nat.pow 2 145)
theorem ni_quarter : NI 1048576000 quarterK := num_lit .f32 1048576000 false 8388608 (-25) _ (by kernel_rfl) (by kernel_rfl)
theorem ni_sixteenth : NI 1031798784 sixteenthK := num_lit .f32 1031798784 false 8388608 (-27) _ (by kernel_rfl) (by kernel_rfl)
theorem ok_quarter : okI quarterK = true := by rw [← okK_eq]; kernel_rfl

/-- hearts do not go out within n steps -/
noncomputable def heartK (n : Nat) (a b : Int) : Bool :=
  ok2 a b && f32sK a quarterK fun x => f32aK a oneK fun z => f32mK x x fun xx => f32mK b b fun yy => f32aK xx yy fun q => f32aK q x fun qx => f32mK q qx fun l => f32mK quarterK b fun m => f32mK m b fun r =>
    cond (leK l r) (escK a b n (.ofNat 0) (.ofNat 0)) (f32mK z z fun zz => f32aK zz yy fun s => cond (leK s sixteenthK) (escK a b n (.ofNat 0) (.ofNat 0)) true)

theorem heart_ci {n : Nat} {a b : Nat} {x y : Int} (h : CI a b x y) (hk : heartK n x y = true) : ∃ t, heartF a b = some t ∧ (t = true → ∃ u v, escF 0 a b n 0 0 0 = some (n, u, v)) := by
  unfold heartK at hk
  rw [Bool.and_eq_true] at hk
  obtain ⟨oc, hk⟩ := hk
  have ho := ok2_eq oc
  obtain ⟨r1, n1, e1, m1, o1, hk⟩ := f32s h.1 ni_quarter ho.1 ok_quarter hk
  obtain ⟨r2, n2, e2, m2, o2, hk⟩ := f32a h.1 ni_one ho.1 ok_one hk
  obtain ⟨r3, n3, e3, m3, o3, hk⟩ := f32m m1 m1 o1 o1 hk
  obtain ⟨r4, n4, e4, m4, o4, hk⟩ := f32m h.2 h.2 ho.2 ho.2 hk
  obtain ⟨r5, n5, e5, m5, o5, hk⟩ := f32a m3 m4 o3 o4 hk
  obtain ⟨r6, n6, e6, m6, o6, hk⟩ := f32a m5 m1 o5 o1 hk
  obtain ⟨r7, n7, e7, m7, o7, hk⟩ := f32m m5 m6 o5 o6 hk
  obtain ⟨r8, n8, e8, m8, o8, hk⟩ := f32m ni_quarter h.2 ok_quarter ho.2 hk
  obtain ⟨r9, n9, e9, m9, o9, hk⟩ := f32m m8 h.2 o8 ho.2 hk
  have l1 := le32_ci m7 m9
  cases hl : leK n7 n9
  · rw [hl] at hk l1
    simp only [cond] at hk
    obtain ⟨s1, k1, f1, q1, p1, hk⟩ := f32m m2 m2 o2 o2 hk
    obtain ⟨s2, k2, f2, q2, p2, hk⟩ := f32a q1 m4 p1 o4 hk
    have l2 := le32_ci q2 ni_sixteenth
    refine ⟨le32 s2 1031798784, by simp [heartF, e1, e2, e3, e4, e5, e6, e7, e8, e9, l1, f1, f2], fun ht => ?_⟩
    rw [← l2, ht] at hk
    simp only [cond] at hk
    have := esc_ci h oc n 0 (a := 0) (b := 0) ⟨ni_zero, ni_zero⟩ hk
    simpa using this
  · rw [hl] at hk l1
    simp only [cond] at hk
    refine ⟨true, by simp [heartF, e1, e2, e3, e4, e5, e6, e7, e8, e9, l1], fun _ => ?_⟩
    have := esc_ci h oc n 0 (a := 0) (b := 0) ⟨ni_zero, ni_zero⟩ hk
    simpa using this


theorem allB_step (n : Nat) (p : Nat → Bool) (h : p n = true) (h2 : allB n p = true) : allB (n + 1) p = true := by
  show (p n && allB n p) = true
  rw [h, h2]; rfl

/-! ### what rests -/
noncomputable def smallK (x : Int) : Bool := Nat.ble (Int.natAbs x) (Nat.mul 1000 (Nat.pow 2 149))
theorem small_ab {x : Int} (h : smallK x = true) : Ab ((x : Rat) * 2 ^ (-149 : Int)) 1000 := by
  have h1 := Nat.le_of_ble_eq_true h
  have h1 : x.natAbs ≤ 1000 * 2 ^ 149 := h1
  have h2 : x ≤ ((1000 * 2 ^ 149 : Nat) : Int) := by omega
  have h3 : -((1000 * 2 ^ 149 : Nat) : Int) ≤ x := by omega
  have hp := p2_pos (-149)
  have e : (((1000 * 2 ^ 149 : Nat) : Int) : Rat) * 2 ^ (-149 : Int) = 1000 := by decide +kernel
  have g2 := Rat.mul_le_mul_of_nonneg_right (Rat.intCast_le_intCast.2 h2) (Rat.le_of_lt hp)
  have g3 := Rat.mul_le_mul_of_nonneg_right (Rat.intCast_le_intCast.2 h3) (Rat.le_of_lt hp)
  rw [Rat.intCast_neg, Rat.neg_mul] at g3
  constructor <;> grind
theorem small_ci {a b : Nat} {x y : Int} (h : CI a b x y) (hx : smallK x = true) (hy : smallK y = true) : SmallC a b := ⟨_, _, h.num, small_ab hx, small_ab hy⟩

/-- the length of the difference is at most a thousandth -/
noncomputable def nearK (a b x y : Int) : Bool := f32sK a x fun e => f32sK b y fun f => lngK e f fun l => Nat.ble (Nat.mul 1000 (Int.natAbs l)) (Nat.pow 2 149)
theorem near_ci {u x : Nat × Nat} {a b c d : Int} (h1 : CI u.1 u.2 a b) (h2 : CI x.1 x.2 c d) (o1 : okI a = true) (o2 : okI b = true) (o3 : okI c = true) (o4 : okI d = true) (hk : nearK a b c d = true) : NearBy (1 / 1000) u x := by
  obtain ⟨e, n1, f1, m1, p1, hk⟩ := f32s h1.1 h2.1 o1 o3 hk
  obtain ⟨f, n2, f2, m2, p2, hk⟩ := f32s h1.2 h2.2 o2 o4 hk
  obtain ⟨l, n, e3, m3, hk⟩ := lng_ci ⟨m1, m2⟩ p1 p2 hk
  refine ⟨(e, f), l, _, by simp [subF, f1, f2], e3, m3, ?_⟩
  have h1 := Nat.le_of_ble_eq_true hk
  have h1 : 1000 * n.natAbs ≤ 2 ^ 149 := h1
  have h2 : 1000 * n ≤ ((2 ^ 149 : Nat) : Int) := by omega
  have hp := p2_pos (-149)
  have g := Rat.mul_le_mul_of_nonneg_right (Rat.intCast_le_intCast.2 h2) (Rat.le_of_lt hp)
  have e : (((2 ^ 149 : Nat) : Int) : Rat) * 2 ^ (-149 : Int) = 1 := by decide +kernel
  rw [e, Rat.intCast_mul] at g
  have e1 : ((1000 : Int) : Rat) = 1000 := rfl
  rw [e1] at g
  grind

noncomputable def moveK (a b x y : Int) : Bool := smallK x && smallK y && mulK x y x y fun m n => ok2 m n && addK m n a b fun u v => ok2 u v && nearK u v x y
theorem move_ci {ca cb za zb : Nat} {a b x y : Int} (hc : CI ca cb a b) (hz : CI za zb x y) (oc : ok2 a b = true) (oz : ok2 x y = true) (hk : moveK a b x y = true) :
    SmallC za zb ∧ ∃ u, onceF 0 ca cb za zb = some u ∧ Fin32 u.1 ∧ Fin32 u.2 ∧ NearBy (1 / 1000) u (za, zb) := by
  unfold moveK at hk
  rw [mulK_eq, addK_eq, Bool.and_eq_true, Bool.and_eq_true, Bool.and_eq_true, Bool.and_eq_true] at hk
  obtain ⟨⟨h1, h2⟩, h3, h4, h5⟩ := hk
  obtain ⟨u, e, n⟩ := sq_ci hz hc oz oc h3
  exact ⟨small_ci hz h1 h2, u, e, ⟨_, n.1⟩, ⟨_, n.2⟩, near_ci (x := (za, zb)) n hz (ok2_eq h4).1 (ok2_eq h4).2 (ok2_eq oz).1 (ok2_eq oz).2 h5⟩

noncomputable def restK (a b : Int) : Bool :=
  ok2 a b && f32mK a fourK fun s => f32mK b fourK fun t => f32sK oneK s fun p => f32sK (.ofNat 0) t fun q => rootK p q fun u v => ok2 u v &&
  f32aK oneK u fun p => f32aK (.ofNat 0) v fun q => f32mK p halfK fun xa => f32mK q halfK fun xb =>
  f32sK oneK u fun p => f32sK (.ofNat 0) v fun q => f32mK p halfK fun ya => f32mK q halfK fun yb =>
  moveK a b xa xb && moveK a b ya yb && f32aK xa ya fun p => f32aK xb yb fun q => nearK p q oneK (.ofNat 0)

theorem ok2_mk {a b : Int} (h1 : okI a = true) (h2 : okI b = true) : ok2 a b = true := by unfold ok2; rw [okK_eq, okK_eq, h1, h2]; rfl

theorem rest_ci {a b : Nat} {x y : Int} (h : CI a b x y) (hk : restK x y = true) : ∃ r, RestGood a b r := by
  unfold restK at hk
  rw [Bool.and_eq_true] at hk
  obtain ⟨oc, hk⟩ := hk
  have ho := ok2_eq oc
  obtain ⟨s1, _, e1, m1, o1, hk⟩ := f32m h.1 ni_four ho.1 ok_four hk
  obtain ⟨s2, _, e2, m2, o2, hk⟩ := f32m h.2 ni_four ho.2 ok_four hk
  obtain ⟨s3, _, e3, m3, o3, hk⟩ := f32s ni_one m1 ok_one o1 hk
  obtain ⟨s4, _, e4, m4, o4, hk⟩ := f32s ni_zero m2 ok_zero o2 hk
  obtain ⟨d, u, v, e5, m5, hk⟩ := root_ci ⟨m3, m4⟩ o3 o4 hk
  rw [Bool.and_eq_true] at hk
  obtain ⟨od, hk⟩ := hk
  have hd := ok2_eq od
  obtain ⟨s6, _, e6, m6, o6, hk⟩ := f32a ni_one m5.1 ok_one hd.1 hk
  obtain ⟨s7, _, e7, m7, o7, hk⟩ := f32a ni_zero m5.2 ok_zero hd.2 hk
  obtain ⟨xa, _, e8, m8, o8, hk⟩ := f32m m6 ni_half o6 ok_half hk
  obtain ⟨xb, _, e9, m9, o9, hk⟩ := f32m m7 ni_half o7 ok_half hk
  obtain ⟨t6, _, f6, n6, p6, hk⟩ := f32s ni_one m5.1 ok_one hd.1 hk
  obtain ⟨t7, _, f7, n7, p7, hk⟩ := f32s ni_zero m5.2 ok_zero hd.2 hk
  obtain ⟨ya, _, f8, n8, p8, hk⟩ := f32m n6 ni_half p6 ok_half hk
  obtain ⟨yb, _, f9, n9, p9, hk⟩ := f32m n7 ni_half p7 ok_half hk
  rw [Bool.and_eq_true, Bool.and_eq_true] at hk
  obtain ⟨⟨k1, k2⟩, hk⟩ := hk
  obtain ⟨q1, _, g1, l1, w1, hk⟩ := f32a m8 n8 o8 p8 hk
  obtain ⟨q2, _, g2, l2, w2, hk⟩ := f32a m9 n9 o9 p9 hk
  have mx := move_ci h ⟨m8, m9⟩ oc (ok2_mk o8 o9) k1
  have my := move_ci h ⟨n8, n9⟩ oc (ok2_mk p8 p9) k2
  refine ⟨((xa, xb), (ya, yb)), ?_, mx.1, my.1, mx.2, my.2, (q1, q2), by simp [addF, g1, g2], near_ci (u := (q1, q2)) (x := (1065353216, 0)) ⟨l1, l2⟩ ⟨ni_one, ni_zero⟩ w1 w2 ok_one ok_zero hk⟩
  simp [restsF, scaleF, subF, addF, e1, e2, e3, e4, e5, e6, e7, e8, e9, f6, f7, f8, f9]
end Go.Proofs.Ytjhicedblobjfaa
