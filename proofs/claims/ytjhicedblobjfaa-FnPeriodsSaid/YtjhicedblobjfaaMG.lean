/- Orbits by differences that start at nothing stay the orbits: no program in sight. · Walks: how far differences spread; numbers flushed. · Walks: escapes by differences from nothing. · Products of numbers of which one may be great: no program in sight. -/
import Derived.Test.YtjhicedblobjfaaG1
import Derived.Test.YtjhicedblobjfaaA9
import Derived.Test.YtjhicedblobjfaaA11
namespace Go.Proofs.Ytjhicedblobjfaa
open Ieee

/-- a complex number whose value is nothing -/
def ZeroC (e : Nat × Nat) : Prop := CNum e.1 e.2 0 0

theorem near_zero {f : Format} {y : Rat} (hr : Rep f 0) (h : Near f 0 y) : y = 0 := near_exact h hr

theorem add_zero {o e : Nat × Nat} {x y : Rat} (h : CNum o.1 o.2 x y) (he : ZeroC e) (bx : Ab x 11) (bY : Ab y 11) : ∃ r, addF o.1 o.2 e.1 e.2 = some r ∧ CNum r.1 r.2 x y := by
  have e1 : x + 0 = x := Rat.add_zero x
  have e2 : y + 0 = y := Rat.add_zero y
  obtain ⟨r, p, q, e, c, k1, k2⟩ := addF_num h he (show Ab (x + 0) 11 by rw [e1]; exact bx) (show Ab (y + 0) 11 by rw [e2]; exact bY) (cst126 (by decide +kernel))
  rw [e1] at k1
  rw [e2] at k2
  have h1 := near_exact k1 (num_rep h.1)
  have h2 := near_exact k2 (num_rep h.2)
  subst h1; subst h2
  exact ⟨r, e, c⟩

theorem twice_some {o : Nat × Nat} {x y : Rat} (h : CNum o.1 o.2 x y) (bx : Ab x 11) (bY : Ab y 11) : ∃ r p q, addF o.1 o.2 o.1 o.2 = some r ∧ CNum r.1 r.2 p q ∧ Ab p 22 ∧ Ab q 22 := by
  have e : (11 + 11 : Rat) = 22 := by decide +kernel
  have s1 := ab_add bx bx
  have s2 := ab_add bY bY
  rw [e] at s1 s2
  obtain ⟨r, p, q, e, c, k1, k2⟩ := addF_num h h s1 s2 (cst126 (by decide +kernel))
  have r22 := rep_n .f32 22 (by decide) _ (show (22 : Rat) = ((22 : Nat) : Rat) by decide +kernel)
  exact ⟨r, p, q, e, c, near_ab k1 r22 s1, near_ab k2 r22 s2⟩

theorem mul_zero {o e : Nat × Nat} {x y : Rat} (h : CNum o.1 o.2 x y) (he : ZeroC e) (bx : Ab x 22) (bY : Ab y 22) : ∃ r, mulF o.1 o.2 e.1 e.2 = some r ∧ ZeroC r := by
  have z : Ab (0 : Rat) 22 := by constructor <;> decide +kernel
  obtain ⟨r, m, n, p, q, e, c, k1, k2, j1, j2⟩ := mulF_num h he bx bY z z (cst30 (by decide +kernel))
  have e1 : x * 0 - y * 0 = 0 := by grind
  have e2 : x * 0 + y * 0 = 0 := by grind
  rw [e1] at k1
  rw [e2] at k2
  have h1 := near_zero (rep0 .f64) k1
  have h2 := near_zero (rep0 .f64) k2
  subst h1; subst h2
  have h3 := near_zero (rep0 .f32) j1
  have h4 := near_zero (rep0 .f32) j2
  subst h3; subst h4
  exact ⟨r, e, c⟩

theorem add_zeros {d e : Nat × Nat} (h : ZeroC d) (he : ZeroC e) : ∃ r, addF d.1 d.2 e.1 e.2 = some r ∧ ZeroC r := by
  have z : Ab (0 : Rat) 11 := by constructor <;> decide +kernel
  exact add_zero h he z z

/-- a step of the differences -/
theorem diff_step {o e : Nat × Nat} {x y : Rat} (h : CNum o.1 o.2 x y) (he : ZeroC e) (bx : Ab x 11) (bY : Ab y 11) :
    ∃ r1 r2 r3 r4 r5, addF o.1 o.2 o.1 o.2 = some r1 ∧ mulF r1.1 r1.2 e.1 e.2 = some r2 ∧ mulF e.1 e.2 e.1 e.2 = some r3 ∧ addF r2.1 r2.2 r3.1 r3.2 = some r4 ∧ addF r4.1 r4.2 0 0 = some r5 ∧ ZeroC r5 := by
  have z : Ab (0 : Rat) 22 := by constructor <;> decide +kernel
  obtain ⟨r1, p, q, e1, c1, b1, b2⟩ := twice_some h bx bY
  obtain ⟨r2, e2, c2⟩ := mul_zero c1 he b1 b2
  obtain ⟨r3, e3, c3⟩ := mul_zero he he z z
  obtain ⟨r4, e4, c4⟩ := add_zeros c2 c3
  obtain ⟨r5, e5, c5⟩ := add_zeros c4 (show ZeroC (0, 0) from ⟨num0, num0⟩)
  exact ⟨r1, r2, r3, r4, r5, e1, e2, e3, e4, e5, c5⟩

/-- whether a number is out hangs on its value alone -/
theorem out_value {o r : Nat × Nat} {x y : Rat} (h : CNum o.1 o.2 x y) (k : CNum r.1 r.2 x y) (bx : Ab x 11) (bY : Ab y 11) : ∃ p p' q, powerF o.1 o.2 = some p ∧ powerF r.1 r.2 = some p' ∧ NumK .f32 p q ∧ NumK .f32 p' q ∧ outB p' = outB p := by
  obtain ⟨p, m, q, e, n, k1, k2⟩ := powerF_num h bx bY (cst30 (by decide +kernel))
  obtain ⟨p', m', q', e', n', k1', k2'⟩ := powerF_num k bx bY (cst30 (by decide +kernel))
  have hm := near_unique k1 k1'
  subst hm
  have hq := near_unique k2 k2'
  subst hq
  exact ⟨p, p', q, e, e', n, n', by rw [outB_num n, outB_num n']⟩

/-- the numbers of an orbit that an escape tells have parts at most 11 -/
theorem esc_val {k : Int} (hk0 : 0 ≤ k) (hk : k ≤ 3) {ca cb : Nat} {cx cy : Rat} (hc : CNum ca cb cx cy) (dx : Ab cx 2) (dy : Ab cy 2) {a b f i n : Nat} {L : List (Nat × Nat)} {x0 y0 : Rat}
    (h0 : CNum a b x0 y0) (bx0 : Ab x0 11) (by0 : Ab y0 11) (G : EscGood k ca cb a b f i n L) : ∀ j, j ≤ n → ∃ x y, CNum (L.getD j (0, 0)).1 (L.getD j (0, 0)).2 x y ∧ Ab x 11 ∧ Ab y 11
  | 0, _ => by
    rw [G.orb.first]; exact ⟨x0, y0, h0, bx0, by0⟩
  | j + 1, hj => by
    obtain ⟨x, y, h, bx, bY⟩ := esc_val hk0 hk hc dx dy h0 bx0 by0 G j (by omega)
    obtain ⟨p, q, e, n, _, _, hq⟩ := pow_bd h bx bY
    obtain ⟨p', q', e', n', h4, _⟩ := G.pow j (by omega)
    rw [e] at e'
    cases e'
    have hqq := num_unique n n'
    subst hqq
    obtain ⟨r, u, v, er, cr, d1, d2⟩ := once_bd hk0 hk hc dx dy h (hq (h4 (by omega)))
    have hn := G.orb.next j (by omega)
    rw [er] at hn
    cases hn
    exact ⟨u, v, cr, d1, d2⟩
end Go.Proofs.Ytjhicedblobjfaa

namespace Go.Proofs.Ytjhicedblobjfaa
open Go.RowKit Ieee

section
set_option maxHeartbeats 800000
set_option maxRecDepth 100000

/-- a zero is not subnormal: it is not turned -/
theorem flush_zero (a : Nat) (w : World) (h : NumK .f32 a 0) :
    Calls Try.prog 72 #[.float .f32 a] w fun e w' => e = .returned (.float .f32 a) ∧ w = w' := by
  have h1 : (FloatKind.f32.format.order a 0 != some .eq) = false := by have := ord_eq h num0; simp only [bne, this]; rfl
  clear h
  go_enter Try.func72, Try.ntmps72
  go_wp2_with (go_at_call 108; go_in)
  go_ret
  exact ⟨rfl, rfl⟩

theorem spreadOf_any (ca cb a b l r : Nat) (w : World) (hc : SmallC ca cb) (hz : SmallC a b) (e1 : longF a b = some l) (e2 : fmul .f32 1073741824 l = some r) (hr : Fin32 r) :
    Calls Try.prog 18 #[.agg #[.int .i64 0, .complex .f32 ca cb], .complex .f32 a b] w fun e w' => e = .returned (.tuple #[.float .f32 r, .bool true]) ∧ Below w.heap.size w w' := by
  have H1 := Lib.hid (fun w => validMap_yes 0 (by decide) (by decide) ca cb w hc)
  have H2 := Lib.hid (fun w => isSmall_yes a b w hz)
  have H3 := Lib.hid (fun w => longOf_any a b l w e1)
  have H4 := Lib.hid (fun w => ifNumber_yes r w hr)
  clear hc hz e1 hr
  go_enter Try.func18, Try.ntmps18
  go_wp2_with fail
  refine (H1.out _).mono ?_
  rintro e w1 ⟨rfl, hb⟩
  have hc0 : w1.cell? ⟨w.heap.size, 0, none⟩ = some (.int .i64 0) := by rw [(bcell hb).1 _ _ (by simp)]; simp
  go_wp2_with fail
  refine (H2.out _).mono ?_
  rintro e w2 ⟨rfl, rfl⟩
  go_wp2_with fail
  refine (H3.out _).mono ?_
  rintro e w2 ⟨rfl, rfl⟩
  go_wp2_with fail
  refine (H4.out _).mono ?_
  rintro e w2 ⟨rfl, rfl⟩
  go_wp2_with fail
  go_ret2
  exact ⟨rfl, ((Below.refl _ _).alloc (Nat.le_refl _) _).trans (hb.mono (by simp))⟩
end
end Go.Proofs.Ytjhicedblobjfaa

namespace Go.Proofs.Ytjhicedblobjfaa
open Go.RowKit Ieee

/-- d is the first of the n numbers that is out, or n -/
structure FirstOut (n d : Nat) (L : List (Nat × Nat)) : Prop where
  le : d ≤ n
  val : ∀ j, j < n → ∃ x y, CNum (L.getD j (0, 0)).1 (L.getD j (0, 0)).2 x y ∧ Ab x 11 ∧ Ab y 11
  stay : ∀ j, j < d → ∃ p, powerF (L.getD j (0, 0)).1 (L.getD j (0, 0)).2 = some p ∧ outB p = false
  out : d < n → ∃ p, powerF (L.getD d (0, 0)).1 (L.getD d (0, 0)).2 = some p ∧ outB p = true

section
set_option maxHeartbeats 0
set_option maxRecDepth 100000

theorem nearEscape_any (g n cap d : Nat) (L : List (Nat × Nat)) (fl : Bool) (w : World) (hn : 1 ≤ n) (hn2 : n ≤ 128) (H : FirstOut n d L) (hc : ∀ j, j < n → w.cell? ⟨g, j, none⟩ = some (cv (L.getD j (0, 0)))) :
    Calls Try.prog 17 #[.slice (some ⟨g, 0, none⟩) n cap, .complex .f32 0 0, .bool fl] w fun e w' => e = .returned (.tuple #[.int .i64 d, .bool true]) ∧ w = w' := by
  have HF0 : FinCells w (some ⟨g, 0, none⟩) n := fun j hj => by
    obtain ⟨x, y, c, _⟩ := H.val j hj
    exact ⟨g, _, _, rfl, hc j hj, (cnum_fin c).1, (cnum_fin c).2⟩
  have HF := Lib.hid (areFiniteComplex_yes (some ⟨g, 0, none⟩) n cap w (by unfold maxLen; omega) HF0)
  have HZ := Lib.hid (fun w => isFiniteC_yes 0 0 w ⟨0, num0⟩ ⟨0, num0⟩)
  have HH := Lib.hid H
  have CELLS := Lib.hid hc
  have hd := H.le
  clear HF0 H hc
  go_enter Try.func17, Try.ntmps17
  go_wp2_with (first | (go_at_call 68; refine (HF.out).mono ?_; rintro e w' ⟨rfl, rfl⟩) | (go_at_call 54; refine (HZ.out _).mono ?_; rintro e w' ⟨rfl, rfl⟩))
  go_loop [8, 31] (fun ev i => ∃ (j : Nat) (e : Nat × Nat), j ≤ d ∧ i = .int .i64 j ∧ ev = .complex .f32 e.1 e.2 ∧ Hid (ZeroC e)) (fun _ i => n - (intOf i).toNat)
  case atStart => exact ⟨0, (0, 0), by omega, rfl, rfl, Lib.hid ⟨num0, num0⟩⟩
  case round =>
    obtain ⟨j, e, hj, rfl, rfl, HE⟩ := hrel
    by_cases hlt : j < n
    · have H := HH.out
      obtain ⟨o, hoL⟩ : ∃ o, o = L.getD j (0, 0) := ⟨_, rfl⟩
      have hcj : w.cell? ⟨g, j, none⟩ = some (.complex .f32 o.1 o.2) := by rw [CELLS.out j hlt, hoL]; rfl
      obtain ⟨x, y, c, bx, bY⟩ := H.val j hlt
      rw [← hoL] at c
      obtain ⟨r, ea, ca⟩ := add_zero c HE.out bx bY
      obtain ⟨p, p', q, ep, ep', _, _, hout⟩ := out_value c ca bx bY
      have HA := Lib.hid (fun w => add_any o.1 o.2 e.1 e.2 r w ea)
      have HO := Lib.hid (fun w => isOut_any r.1 r.2 p' w ep')
      by_cases hjd : j < d
      · obtain ⟨p2, ep2, ho2⟩ := H.stay j hjd
        rw [← hoL, ep] at ep2
        cases ep2
        have hob : outB p' = false := by rw [hout, ho2]
        have HO2 : ∀ w, Calls Try.prog 69 #[.complex .f32 r.1 r.2] w fun e w' => e = .returned (.bool false) ∧ w = w' := fun w => by rw [← hob]; exact HO.out w
        have HO2 := Lib.hid HO2
        obtain ⟨r1, r2, r3, r4, r5, f1, f2, f3, f4, f5, hz⟩ := diff_step c HE.out bx bY
        have K1 := Lib.hid (fun w => add_any o.1 o.2 o.1 o.2 r1 w f1)
        have K2 := Lib.hid (fun w => mulComplex_any r1.1 r1.2 e.1 e.2 r2 w f2)
        have K3 := Lib.hid (fun w => mulComplex_any e.1 e.2 e.1 e.2 r3 w f3)
        have K4 := Lib.hid (fun w => add_any r2.1 r2.2 r3.1 r3.2 r4 w f4)
        have K5 := Lib.hid (fun w => add_any r4.1 r4.2 0 0 r5 w f5)
        have KA := Lib.hid (fun w => flush_zero r5.1 w hz.1)
        have KB := Lib.hid (fun w => flush_zero r5.2 w hz.2)
        have HZ5 := Lib.hid hz
        clear H hoL c bx bY ea ca ep ep' hout HO hob ho2 f1 f2 f3 f4 f5 hz
        cases fl
        all_goals go_wp2_with fail
        all_goals (refine (HA.out _).mono ?_; rintro e w1 ⟨rfl, rfl⟩)
        all_goals go_wp2_with fail
        all_goals (refine (HO2.out _).mono ?_; rintro e w1 ⟨rfl, rfl⟩)
        all_goals go_wp2_with fail
        all_goals (refine (K1.out _).mono ?_; rintro e w1 ⟨rfl, rfl⟩)
        all_goals go_wp2_with fail
        all_goals (refine (K2.out _).mono ?_; rintro e w1 ⟨rfl, rfl⟩)
        all_goals go_wp2_with fail
        all_goals (refine (K3.out _).mono ?_; rintro e w1 ⟨rfl, rfl⟩)
        all_goals go_wp2_with fail
        all_goals (refine (K4.out _).mono ?_; rintro e w1 ⟨rfl, rfl⟩)
        all_goals go_wp2_with fail
        all_goals (refine (K5.out _).mono ?_; rintro e w1 ⟨rfl, rfl⟩)
        · go_wp2_with fail
          go_round
          case rel => exact ⟨j + 1, r5, by omega, by go_num, rfl, HZ5⟩
          case measure => simp [intOf]; omega
        · go_wp2_with fail
          refine (KA.out _).mono ?_
          rintro e w1 ⟨rfl, rfl⟩
          go_wp2_with fail
          refine (KB.out _).mono ?_
          rintro e w1 ⟨rfl, rfl⟩
          go_wp2_with fail
          go_round
          case rel => exact ⟨j + 1, r5, by omega, by go_num, rfl, HZ5⟩
          case measure => simp [intOf]; omega
      · have hje : j = d := by omega
        subst hje
        obtain ⟨p2, ep2, ho2⟩ := H.out hlt
        rw [← hoL, ep] at ep2
        cases ep2
        have hob : outB p' = true := by rw [hout, ho2]
        have HO2 : ∀ w, Calls Try.prog 69 #[.complex .f32 r.1 r.2] w fun e w' => e = .returned (.bool true) ∧ w = w' := fun w => by rw [← hob]; exact HO.out w
        have HO2 := Lib.hid HO2
        clear H hoL c bx bY ea ca ep ep' hout HO hob ho2
        go_wp2_with fail
        refine (HA.out _).mono ?_
        rintro e w1 ⟨rfl, rfl⟩
        go_wp2_with fail
        refine (HO2.out _).mono ?_
        rintro e w1 ⟨rfl, rfl⟩
        go_wp2_with fail
        go_ret2
        exact ⟨rfl, rfl⟩
    · have hjn : d = n := by omega
      have hj2 : j = n := by omega
      subst hj2
      subst hjn
      go_wp2_with fail
      go_ret2
      exact ⟨rfl, rfl⟩
end
end Go.Proofs.Ytjhicedblobjfaa

namespace Go.Proofs.Ytjhicedblobjfaa
open Ieee

/-- both products stay below 2^99 -/
theorem mulF_two {a b c d : Nat} {x y z t B C : Rat} (h1 : CNum a b x y) (h2 : CNum c d z t) (bx : Ab x B) (bY : Ab y B) (bz : Ab z C) (bt : Ab t C) (hB : B * C + B * C ≤ 2 ^ (100 : Int)) :
    ∃ r m n p q, mulF a b c d = some r ∧ CNum r.1 r.2 p q ∧ Near FloatKind.f64.format (x * z - y * t) m ∧ Near FloatKind.f64.format (x * t + y * z) n ∧
      Near FloatKind.f32.format m p ∧ Near FloatKind.f32.format n q := by
  obtain ⟨wa, ea, na, _⟩ := widen_num h1.1
  obtain ⟨wb, eb, nb, _⟩ := widen_num h1.2
  obtain ⟨wc, ec, nc, _⟩ := widen_num h2.1
  obtain ⟨wd, ed, nd, _⟩ := widen_num h2.2
  have hBC : 0 ≤ B * C := Rat.mul_nonneg (ab_nonneg bx) (ab_nonneg bz)
  have h100 : (2 : Rat) ^ (100 : Int) < 2 ^ (126 : Int) := p2_lt (by decide)
  have hbig : B * C < 2 ^ (126 : Int) := by grind
  have rx := num_rep h1.1; have ry := num_rep h1.2; have rz := num_rep h2.1; have rt := num_rep h2.2
  obtain ⟨r1, e1, n1⟩ := mul64_exact na nc rx rz (ab_mul bx bz) hbig
  obtain ⟨r2, e2, n2⟩ := mul64_exact nb nd ry rt (ab_mul bY bt) hbig
  obtain ⟨r3, e3, n3⟩ := mul64_exact na nd rx rt (ab_mul bx bt) hbig
  obtain ⟨r4, e4, n4⟩ := mul64_exact nb nc ry rz (ab_mul bY bz) hbig
  have s1 := ab_mono (ab_sub (ab_mul bx bz) (ab_mul bY bt)) hB
  have s2 := ab_mono (ab_add (ab_mul bx bt) (ab_mul bY bz)) hB
  have t1 := ab_top .f64 s1 h100
  have t2 := ab_top .f64 s2 h100
  obtain ⟨u1, m, f1, m1, k1⟩ := sub_num n1 n2 t1.1 t1.2
  obtain ⟨u2, n, f2, m2, k2⟩ := add_num n3 n4 t2.1 t2.2
  have r100 := rep_p2 .f64 (e := 100) (by decide)
  obtain ⟨u, p, g1, l1, j1⟩ := narrow_ab m1 (near_ab k1 r100 s1) h100
  obtain ⟨v, q, g2, l2, j2⟩ := narrow_ab m2 (near_ab k2 r100 s2) h100
  exact ⟨(u, v), m, n, p, q, by simp [mulF, timesF, mulReF, mulImF, ea, eb, ec, ed, e1, e2, e3, e4, f1, f2, g1, g2], ⟨l1, l2⟩, k1, k2, j1, j2⟩
end Go.Proofs.Ytjhicedblobjfaa
