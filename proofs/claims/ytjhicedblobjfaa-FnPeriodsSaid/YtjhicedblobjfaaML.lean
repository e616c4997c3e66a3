/- The integer model where one factor may be great. · Borders: the derivative's walk in the integer model. -/
import Derived.Test.YtjhicedblobjfaaMG
import Derived.Test.YtjhicedblobjfaaE4
namespace Go.Proofs.Ytjhicedblobjfaa
open Ieee

theorem okN_ab (k : Nat) {n : Int} (h : n.natAbs ≤ 2 ^ (149 + k)) : Ab ((n : Rat) * 2 ^ (-149 : Int)) (2 ^ (k : Int)) := by
  have h2 : n ≤ ((2 ^ (149 + k) : Nat) : Int) := by omega
  have h3 : -((2 ^ (149 + k) : Nat) : Int) ≤ n := by omega
  have hp := p2_pos (-149)
  have e : ((2 ^ (149 + k) : Nat) : Rat) * 2 ^ (-149 : Int) = 2 ^ (k : Int) := by rw [lit_p2, ← p2_add]; congr 1; omega
  have g2 := Rat.mul_le_mul_of_nonneg_right (Rat.intCast_le_intCast.2 h2) (Rat.le_of_lt hp)
  have g3 := Rat.mul_le_mul_of_nonneg_right (Rat.intCast_le_intCast.2 h3) (Rat.le_of_lt hp)
  rw [Rat.intCast_neg] at g3
  have e' : (((2 ^ (149 + k) : Nat) : Int) : Rat) * 2 ^ (-149 : Int) = 2 ^ (k : Int) := e
  constructor <;> grind

theorem ci_mulD {a b c d : Nat} {x y z t : Int} (h1 : CI a b x y) (h2 : CI c d z t) (ox : x.natAbs ≤ 2 ^ (149 + 9)) (oy : y.natAbs ≤ 2 ^ (149 + 9)) (oz : z.natAbs ≤ 2 ^ (149 + 90)) (ot : t.natAbs ≤ 2 ^ (149 + 90)) :
    ∃ r, mulF a b c d = some r ∧ CI r.1 r.2 (mulI x y z t).1 (mulI x y z t).2 := by
  have hB : (2 : Rat) ^ ((9 : Nat) : Int) * 2 ^ ((90 : Nat) : Int) + 2 ^ ((9 : Nat) : Int) * 2 ^ ((90 : Nat) : Int) ≤ 2 ^ (100 : Int) := by decide +kernel
  obtain ⟨r, m, n, p, q, e, hc, k1, k2, k3, k4⟩ := mulF_two h1.num h2.num (okN_ab 9 ox) (okN_ab 9 oy) (okN_ab 90 oz) (okN_ab 90 ot) hB
  have e1 : (x : Rat) * 2 ^ (-149 : Int) * ((z : Rat) * 2 ^ (-149 : Int)) - (y : Rat) * 2 ^ (-149 : Int) * ((t : Rat) * 2 ^ (-149 : Int)) = ((x * z - y * t : Int) : Rat) * 2 ^ (-298 : Int) := by
    rw [← p298, Rat.intCast_sub, Rat.intCast_mul, Rat.intCast_mul]; grind
  have e2 : (x : Rat) * 2 ^ (-149 : Int) * ((t : Rat) * 2 ^ (-149 : Int)) + (y : Rat) * 2 ^ (-149 : Int) * ((z : Rat) * 2 ^ (-149 : Int)) = ((x * t + y * z : Int) : Rat) * 2 ^ (-298 : Int) := by
    rw [← p298, Rat.intCast_add, Rat.intCast_mul, Rat.intCast_mul]; grind
  rw [e1] at k1
  rw [e2] at k2
  have u1 := near_unique k1 (r64_near _)
  have u2 := near_unique k2 (r64_near _)
  subst u1 u2
  have v1 := near_unique k3 (n32_near _)
  have v2 := near_unique k4 (n32_near _)
  subst v1 v2
  exact ⟨r, e, hc⟩
end Go.Proofs.Ytjhicedblobjfaa

namespace Go.Proofs.Ytjhicedblobjfaa
open Ieee

/-- the walk of BorderOf: the number, its derivative -/
def bordF (ca cb : Nat) : Nat → (Nat × Nat) → (Nat × Nat) → Option ((Nat × Nat) × (Nat × Nat))
  | 0, z, d => some (z, d)
  | f + 1, z, d => do
    let p ← powerF z.1 z.2
    if outB p then some (z, d) else do
      let s ← addF z.1 z.2 z.1 z.2
      let m ← mulF s.1 s.2 d.1 d.2
      let d' ← addF m.1 m.2 1065353216 0
      let q ← mulF z.1 z.2 z.1 z.2
      let z' ← addF q.1 q.2 ca cb
      bordF ca cb f z' d'

/-- |n| ≤ 2^k -/
noncomputable def leN (k : Nat) (n : Int) : Bool := Int.rec (fun n => Nat.ble n (Nat.pow 2 k)) (fun n => Nat.ble (Nat.succ n) (Nat.pow 2 k)) n
theorem leN_ok {k : Nat} {n : Int} (h : leN k n = true) : n.natAbs ≤ 2 ^ k := by
  cases n with
  | ofNat m => exact Nat.le_of_ble_eq_true h
  | negSucc m => exact Nat.le_of_ble_eq_true h

theorem ci_addW {a b c d : Nat} {x y z t : Int} (h1 : CI a b x y) (h2 : CI c d z t) (ox : x.natAbs ≤ 2 ^ (149 + 100)) (oy : y.natAbs ≤ 2 ^ (149 + 100)) (oz : z.natAbs ≤ 2 ^ (149 + 100)) (ot : t.natAbs ≤ 2 ^ (149 + 100)) :
    ∃ r, addF a b c d = some r ∧ CI r.1 r.2 (addI x y z t).1 (addI x y z t).2 := by
  have e : (2 : Rat) ^ ((100 : Nat) : Int) + 2 ^ ((100 : Nat) : Int) ≤ 2 ^ (101 : Int) := by decide +kernel
  have s1 := ab_mono (ab_add (okN_ab 100 ox) (okN_ab 100 oz)) e
  have s2 := ab_mono (ab_add (okN_ab 100 oy) (okN_ab 100 ot)) e
  obtain ⟨r, p, q, e1, hc, k1, k2⟩ := addF_num h1.num h2.num s1 s2 (p2_lt (by decide))
  rw [← Rat.add_mul, ← Rat.intCast_add] at k1 k2
  have u1 := near_unique k1 (r32_near _)
  have u2 := near_unique k2 (r32_near _)
  subst u1 u2
  exact ⟨r, e1, hc⟩

/-- at the end: the number is in, or the derivative is neither too small nor too great -/
noncomputable def endK (zr zi dr di : Int) : Bool := ok2 zr zi && (inK zr zi || (leN 157 zr && leN 157 zi && leN 179 dr && leN 179 di && !(leN 148 dr && leN 148 di)))
noncomputable def bordK (ca cb : Int) (n : Nat) : Int → Int → Int → Int → Bool :=
  Nat.rec endK (fun _ f zr zi dr di => ok2 zr zi && leN 239 dr && leN 239 di && cond (inK zr zi)
    (addK zr zi zr zi fun s t => leN 158 s && leN 158 t && mulK s t dr di fun m n => leN 249 m && leN 249 n && addK m n oneK (.ofNat 0) fun er ei =>
      mulK zr zi zr zi fun u v => ok2 u v && addK u v ca cb fun wr wi => f wr wi er ei)
    (endK zr zi dr di)) n

/-- what BorderOf's walk ends with -/
structure BordEnd (z d : Nat × Nat) (x y s t : Int) : Prop where
  z : CI z.1 z.2 x y
  d : CI d.1 d.2 s t
  okz : okI x = true ∧ okI y = true
  fine : endK x y s t = true

theorem out_ci {a b : Nat} {x y : Int} (h : CI a b x y) (ox : okI x = true) (oy : okI y = true) (hk : inK x y = false) : ∃ p q, powerF a b = some p ∧ NumK .f32 p q ∧ 4 < q ∧ outB p = true := by
  obtain ⟨p, e, n⟩ := powerF_ci h ox oy
  unfold inK at hk
  rw [forceI_eq, rnIK_eq, rnIK_eq] at hk
  have hk : Int.rec (motive := fun _ => Bool) (fun n => Nat.ble n (Nat.pow 2 151)) (fun _ => true) (n32 (powI x y)) = false := hk
  have hlt : ((2 ^ 151 : Nat) : Int) < n32 (powI x y) := by
    cases hq : n32 (powI x y) with
    | ofNat m =>
      rw [hq] at hk
      have hk : Nat.ble m (Nat.pow 2 151) = false := hk
      have : ¬ m ≤ 2 ^ 151 := fun h' => by
        have := Nat.ble_eq_true_of_le h'
        have hk' : Nat.ble m (2 ^ 151) = false := hk
        rw [this] at hk'; cases hk'
      exact Int.ofNat_lt.2 (by omega)
    | negSucc m => rw [hq] at hk; cases hk
  have hv : 4 < ((n32 (powI x y) : Int) : Rat) * 2 ^ (-149 : Int) := by
    have h1 := Rat.mul_lt_mul_of_pos_right (Rat.intCast_lt_intCast.2 hlt) (p2_pos (-149))
    have e4 : (((2 ^ 151 : Nat) : Int) : Rat) * 2 ^ (-149 : Int) = 4 := by decide +kernel
    rw [e4] at h1; exact h1
  refine ⟨p, _, e, n, hv, ?_⟩
  rw [outB_num n]; simpa using hv

theorem ni_one' : NI 1065353216 oneK := ni_one
theorem bord_ci {za zb : Nat} {ca cb : Int} (hc : CI za zb ca cb) (oc : ok2 ca cb = true) : ∀ (n : Nat) {z d : Nat × Nat} {x y s t : Int}, CI z.1 z.2 x y → CI d.1 d.2 s t → bordK ca cb n x y s t = true →
    ∃ z' d' x' y' s' t', bordF za zb n z d = some (z', d') ∧ BordEnd z' d' x' y' s' t'
  | 0, z, d, x, y, s, t, hz, hd, hk => by
    have hk : endK x y s t = true := hk
    have hk2 := hk
    unfold endK at hk2
    rw [Bool.and_eq_true] at hk2
    exact ⟨z, d, x, y, s, t, rfl, hz, hd, ok2_eq hk2.1, hk⟩
  | f + 1, z, d, x, y, s, t, hz, hd, hk => by
    have hk : (ok2 x y && leN 239 s && leN 239 t && cond (inK x y)
      (addK x y x y fun a b => leN 158 a && leN 158 b && mulK a b s t fun m n => leN 249 m && leN 249 n && addK m n oneK (.ofNat 0) fun er ei =>
        mulK x y x y fun u v => ok2 u v && addK u v ca cb fun wr wi => bordK ca cb f wr wi er ei) (endK x y s t)) = true := hk
    rw [Bool.and_eq_true, Bool.and_eq_true, Bool.and_eq_true] at hk
    obtain ⟨⟨⟨oz, l1⟩, l2⟩, hk⟩ := hk
    have hoz := ok2_eq oz
    cases hin : inK x y
    · rw [hin] at hk
      have hk : endK x y s t = true := hk
      obtain ⟨p, q, e, _, _, ho⟩ := out_ci hz hoz.1 hoz.2 hin
      exact ⟨z, d, x, y, s, t, by simp [bordF, e, ho], hz, hd, hoz, hk⟩
    · rw [hin] at hk
      obtain ⟨p, e, ho⟩ := in_ci hz hoz.1 hoz.2 hin
      simp only [cond, addK_eq, mulK_eq, Bool.and_eq_true] at hk
      obtain ⟨⟨a1, a2⟩, ⟨b1, b2⟩, c1, hk⟩ := hk
      obtain ⟨r1, e1, n1⟩ := ci_add hz hz hoz.1 hoz.2 hoz.1 hoz.2
      obtain ⟨r2, e2, n2⟩ := ci_mulD n1 hd (leN_ok a1) (leN_ok a2) (leN_ok l1) (leN_ok l2)
      have w1 : oneK.natAbs ≤ 2 ^ (149 + 100) := by decide +kernel
      have w0 : (Int.ofNat 0).natAbs ≤ 2 ^ (149 + 100) := by decide +kernel
      obtain ⟨r3, e3, n3⟩ := ci_addW n2 (show CI 1065353216 0 oneK (.ofNat 0) from ⟨ni_one, ni_zero⟩) (leN_ok b1) (leN_ok b2) w1 w0
      obtain ⟨r4, e4, n4⟩ := ci_mul hz hz hoz.1 hoz.2 hoz.1 hoz.2
      have hc1 := ok2_eq c1
      have hco := ok2_eq oc
      obtain ⟨r5, e5, n5⟩ := ci_add n4 hc hc1.1 hc1.2 hco.1 hco.2
      obtain ⟨z', d', x', y', s', t', e6, g⟩ := bord_ci hc oc f n5 n3 hk
      exact ⟨z', d', x', y', s', t', by simp [bordF, e, ho, e1, e2, e3, e4, e5, e6], g⟩
end Go.Proofs.Ytjhicedblobjfaa
