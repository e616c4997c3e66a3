/- Orbits that may grow: a step from a small number is a finite number. No program in sight. -/
import Derived.Test.YtjhicedblobjfaaF8
import Derived.Test.YtjhicedblobjfaaB4
namespace Go.Proofs.Ytjhicedblobjfaa
open Ieee

theorem big44 : (2 : Rat) ^ (44 : Int) < 2 ^ (126 : Int) := p2_lt (by decide)
theorem c30 : (2 : Rat) ^ (21 : Int) ≤ 2 ^ (30 : Int) := p2_mono (by decide)

theorem mul_big {a b c d : Nat} {x y z t : Rat} (h1 : CNum a b x y) (h2 : CNum c d z t) (bx : Ab x 1000) (bY : Ab y 1000) (bz : Ab z 1000) (bt : Ab t 1000) :
    ∃ r p q, mulF a b c d = some r ∧ CNum r.1 r.2 p q ∧ Ab p (2 ^ (21 : Int)) ∧ Ab q (2 ^ (21 : Int)) := by
  obtain ⟨r, m, n, p, q, e, c, k1, k2, j1, j2⟩ := mulF_num h1 h2 bx bY bz bt (cst30 (Rat.le_refl))
  have e21 : (1000 * 1000 + 1000 * 1000 : Rat) ≤ 2 ^ (21 : Int) := by decide +kernel
  have r64 := rep_p2 .f64 (e := 21) (by decide)
  have r32 := rep_p2 .f32 (e := 21) (by decide)
  exact ⟨r, p, q, e, c, near_ab j1 r32 (near_ab k1 r64 (ab_mono (ab_sub (ab_mul bx bz) (ab_mul bY bt)) e21)), near_ab j2 r32 (near_ab k2 r64 (ab_mono (ab_add (ab_mul bx bt) (ab_mul bY bz)) e21))⟩

theorem mul_big2 {a b c d : Nat} {x y z t : Rat} (h1 : CNum a b x y) (h2 : CNum c d z t) (bx : Ab x (2 ^ (21 : Int))) (bY : Ab y (2 ^ (21 : Int))) (bz : Ab z 1000) (bt : Ab t 1000) :
    ∃ r p q, mulF a b c d = some r ∧ CNum r.1 r.2 p q ∧ Ab p (2 ^ (43 : Int)) ∧ Ab q (2 ^ (43 : Int)) := by
  have e0 : (1000 : Rat) ≤ 2 ^ (21 : Int) := by decide +kernel
  have bz := ab_mono bz e0
  have bt := ab_mono bt e0
  obtain ⟨r, m, n, p, q, e, c, k1, k2, j1, j2⟩ := mulF_num h1 h2 bx bY bz bt c30
  have e43 : (2 ^ (21 : Int) * 2 ^ (21 : Int) + 2 ^ (21 : Int) * 2 ^ (21 : Int) : Rat) ≤ 2 ^ (43 : Int) := by decide +kernel
  have r64 := rep_p2 .f64 (e := 43) (by decide)
  have r32 := rep_p2 .f32 (e := 43) (by decide)
  exact ⟨r, p, q, e, c, near_ab j1 r32 (near_ab k1 r64 (ab_mono (ab_sub (ab_mul bx bz) (ab_mul bY bt)) e43)), near_ab j2 r32 (near_ab k2 r64 (ab_mono (ab_add (ab_mul bx bt) (ab_mul bY bz)) e43))⟩

theorem add_big {a b ca cb : Nat} {x y cx cy : Rat} (h : CNum a b x y) (hc : CNum ca cb cx cy) (bx : Ab x (2 ^ (43 : Int))) (bY : Ab y (2 ^ (43 : Int))) (dx : Ab cx 1000) (dy : Ab cy 1000) :
    ∃ r u v, addF a b ca cb = some r ∧ CNum r.1 r.2 u v ∧ Ab u (2 ^ (44 : Int)) ∧ Ab v (2 ^ (44 : Int)) := by
  have e44 : (2 ^ (43 : Int) + 1000 : Rat) ≤ 2 ^ (44 : Int) := by decide +kernel
  have s1 := ab_mono (ab_add bx dx) e44
  have s2 := ab_mono (ab_add bY dy) e44
  obtain ⟨r, p, q, e, c, k1, k2⟩ := addF_num h hc s1 s2 big44
  have r32 := rep_p2 .f32 (e := 44) (by decide)
  exact ⟨r, p, q, e, c, near_ab k1 r32 s1, near_ab k2 r32 s2⟩

theorem abs_cases {x u : Rat} (h1 : 0 ≤ x → u = x) (h2 : x ≤ 0 → u = -x) {B : Rat} (hx : Ab x B) : Ab u B := by
  rcases Rat.le_total (a := 0) (b := x) with h0 | h0
  · rw [h1 h0]; exact hx
  · rw [h2 h0]; exact ab_neg hx

theorem once_big {k : Int} (hk0 : 0 ≤ k) (hk : k ≤ 3) {ca cb a b : Nat} (hc : SmallC ca cb) (hz : SmallC a b) :
    ∃ r u v, onceF k ca cb a b = some r ∧ CNum r.1 r.2 u v ∧ Ab u (2 ^ (44 : Int)) ∧ Ab v (2 ^ (44 : Int)) := by
  obtain ⟨cx, cy, hc, dx, dy⟩ := hc
  obtain ⟨x, y, h, bx, bY⟩ := hz
  have e2 : (2 : Rat) ^ (21 : Int) ≤ 2 ^ (43 : Int) := p2_mono (by decide)
  rcases (by omega : k = 0 ∨ k = 1 ∨ k = 2 ∨ k = 3) with rfl | rfl | rfl | rfl
  · obtain ⟨r, p, q, e, c, b1, b2⟩ := mul_big h h bx bY bx bY
    obtain ⟨s, u, v, e3, c2, d1, d2⟩ := add_big c hc (ab_mono b1 e2) (ab_mono b2 e2) dx dy
    exact ⟨s, u, v, by simp [onceF, e, e3], c2, d1, d2⟩
  · obtain ⟨r, p, q, e, c, b1, b2⟩ := mul_big h h bx bY bx bY
    obtain ⟨t, pp, qq, e4, c4, g1, g2⟩ := mul_big2 c h b1 b2 bx bY
    obtain ⟨s, u, v, e3, c2, d1, d2⟩ := add_big c4 hc g1 g2 dx dy
    exact ⟨s, u, v, by simp [onceF, e, e4, e3], c2, d1, d2⟩
  · have c61 : (1000 : Rat) ≤ 2 ^ (61 : Int) := by decide +kernel
    obtain ⟨sa, ua, ea, na, a1, a2, a0⟩ := sizeF_num h.1 (ab_mono bx c61)
    obtain ⟨sb, ub, eb, nb, b1', b2', b0⟩ := sizeF_num h.2 (ab_mono bY c61)
    have bu := abs_cases a1 a2 bx
    have bv := abs_cases b1' b2' bY
    have h' : CNum sa sb ua ub := ⟨na, nb⟩
    obtain ⟨r, p, q, e, c, b1, b2⟩ := mul_big h' h' bu bv bu bv
    obtain ⟨s, u, v, e3, c2, d1, d2⟩ := add_big c hc (ab_mono b1 e2) (ab_mono b2 e2) dx dy
    exact ⟨s, u, v, by simp [onceF, ea, eb, e, e3], c2, d1, d2⟩
  · have h' : CNum a (Op.negFloat .f32 b) x (-y) := ⟨h.1, neg_num h.2⟩
    obtain ⟨r, p, q, e, c, b1, b2⟩ := mul_big h' h' bx (ab_neg bY) bx (ab_neg bY)
    obtain ⟨s, u, v, e3, c2, d1, d2⟩ := add_big c hc (ab_mono b1 e2) (ab_mono b2 e2) dx dy
    exact ⟨s, u, v, by simp [onceF, e, e3], c2, d1, d2⟩

/-- a finite complex number, not too large -/
def Fair (z : Nat × Nat) : Prop := ∃ x y, CNum z.1 z.2 x y ∧ Ab x (2 ^ (44 : Int)) ∧ Ab y (2 ^ (44 : Int))
theorem fair_small {a b : Nat} (h : SmallC a b) : Fair (a, b) := by
  obtain ⟨x, y, h, bx, bY⟩ := h
  have e : (1000 : Rat) ≤ 2 ^ (44 : Int) := by decide +kernel
  exact ⟨x, y, h, ab_mono bx e, ab_mono bY e⟩
theorem fair_fin {z : Nat × Nat} (h : Fair z) : Fin32 z.1 ∧ Fin32 z.2 := by
  obtain ⟨x, y, h, _⟩ := h
  exact cnum_fin h

/-- one number more -/
theorem orb_more {k : Int} {ca cb a b n : Nat} {L : List (Nat × Nat)} {z' : Nat × Nat} (h : Orb k ca cb a b n L) (hs : SmallC (L.getD n (0, 0)).1 (L.getD n (0, 0)).2)
    (e : onceF k ca cb (L.getD n (0, 0)).1 (L.getD n (0, 0)).2 = some z') (hf : Fin32 z'.1 ∧ Fin32 z'.2) : Orb k ca cb a b (n + 1) (L ++ [z']) ∧ (L ++ [z']).getD (n + 1) (0, 0) = z' ∧ ∀ j, j ≤ n → (L ++ [z']).getD j (0, 0) = L.getD j (0, 0) := by
  have hlen := h.len
  have get : ∀ j, j ≤ n → (L ++ [z']).getD j (0, 0) = L.getD j (0, 0) := fun j hj => by
    simp [List.getD, List.getElem?_append_left (show j < L.length by omega)]
  have getn : (L ++ [z']).getD (n + 1) (0, 0) = z' := by
    simp [List.getD, ← hlen]
  refine ⟨⟨by simp [hlen], by rw [get 0 (by omega)]; exact h.first, fun j hj => ?_, fun j hj => ?_, fun j hj => ?_⟩, getn, get⟩
  · rw [get j (by omega)]
    by_cases hjn : j = n
    · subst hjn; rw [getn]; exact e
    · rw [get (j + 1) (by omega)]; exact h.next j (by omega)
  · rw [get j (by omega)]
    by_cases hjn : j = n
    · subst hjn; exact hs
    · exact h.small j (by omega)
  · by_cases hjn : j = n + 1
    · subst hjn; rw [getn]; exact hf
    · rw [get j (by omega)]; exact h.fin j (by omega)

/-- whether the length of a difference is at most so much -/
def distF (u x : Nat × Nat) (near : Nat) : Option Bool := do
  let e ← subF u.1 u.2 x.1 x.2
  let l ← longF e.1 e.2
  pure (le32 l near)
theorem longF_big {a b : Nat} {x y : Rat} (h : CNum a b x y) (bx : Ab x (2 ^ (45 : Int))) (bY : Ab y (2 ^ (45 : Int))) : ∃ l v, longF a b = some l ∧ NumK .f32 l v ∧ 0 ≤ v := by
  obtain ⟨wa, ea, na, _⟩ := widen_num h.1
  obtain ⟨wb, eb, nb, _⟩ := widen_num h.2
  have e90 : (2 ^ (45 : Int) * 2 ^ (45 : Int) : Rat) < 2 ^ (126 : Int) := by decide +kernel
  have e92 : (2 ^ (45 : Int) * 2 ^ (45 : Int) + 2 ^ (45 : Int) * 2 ^ (45 : Int) : Rat) ≤ 2 ^ (92 : Int) := by decide +kernel
  obtain ⟨r1, e1, n1⟩ := mul64_exact na na (num_rep h.1) (num_rep h.1) (ab_mul bx bx) e90
  obtain ⟨r2, e2, n2⟩ := mul64_exact nb nb (num_rep h.2) (num_rep h.2) (ab_mul bY bY) e90
  have hs := ab_mono (ab_add (ab_mul bx bx) (ab_mul bY bY)) e92
  have t2 := ab_top .f64 hs (p2_lt (by decide))
  obtain ⟨s2, q, f2, m2, k2⟩ := add_num n1 n2 t2.1 t2.2
  have b2 := near_ab k2 (rep_p2 .f64 (e := 92) (by decide)) hs
  have q0 : 0 ≤ q := near_ge k2 (rep0 .f64) (by have := sq_nonneg x; have := sq_nonneg y; grind)
  obtain ⟨r, s, e, n, hs'⟩ := sqrt_num m2 q0
  have s0 : 0 ≤ s := by rcases hs' with ⟨_, h⟩ | ⟨_, h, _⟩ <;> grind
  have e46 : (2 ^ (92 : Int) : Rat) ≤ 2 ^ (46 : Int) * 2 ^ (46 : Int) := by decide +kernel
  have bs : Ab s (2 ^ (47 : Int)) := by
    have h47 := p2_pos 47
    rcases hs' with ⟨_, h⟩ | ⟨_, _, hr⟩
    · constructor <;> grind
    · have := nearRoot_le hr (one_le_p2_nat 46) (Rat.le_trans b2.2 e46)
      have e : (2 : Rat) ^ (47 : Int) = 2 * 2 ^ (46 : Int) := p2_succ 46
      constructor <;> grind
  obtain ⟨u, l, f1, m1, j1⟩ := narrow_ab n bs (p2_lt (by decide))
  exact ⟨u, l, by simp [longF, powF, ea, eb, e1, e2, f2, e, f1], m1, near_ge j1 (rep0 .f32) s0⟩

theorem dist_some {u x : Nat × Nat} (hu : Fair u) (hx : Fair x) : ∃ e l v, subF u.1 u.2 x.1 x.2 = some e ∧ longF e.1 e.2 = some l ∧ NumK .f32 l v ∧ 0 ≤ v := by
  obtain ⟨a, b, c1, b1, b2⟩ := hu
  obtain ⟨p, q, c2, b3, b4⟩ := hx
  have e45 : (2 ^ (44 : Int) + 2 ^ (44 : Int) : Rat) ≤ 2 ^ (45 : Int) := by decide +kernel
  have s1 := ab_mono (ab_sub b1 b3) e45
  have s2 := ab_mono (ab_sub b2 b4) e45
  obtain ⟨r, m, n, e, c, k1, k2⟩ := subF_num c1 c2 s1 s2 (p2_lt (by decide))
  have r45 := rep_p2 .f32 (e := 45) (by decide)
  obtain ⟨l, v, e3, n3, v0⟩ := longF_big c (near_ab k1 r45 s1) (near_ab k2 r45 s2)
  exact ⟨r, l, v, e, e3, n3, v0⟩

/-- what a period tells -/
structure PerGood (k : Int) (ca cb a b skip near p : Nat) (L : List (Nat × Nat)) : Prop where
  orb : Orb k ca cb a b (skip + p) L
  pos : 1 ≤ p
  far : ∀ j, 1 ≤ j → j < p → distF (L.getD (skip + j) (0, 0)) (L.getD skip (0, 0)) near = some false
  at' : distF (L.getD (skip + p) (0, 0)) (L.getD skip (0, 0)) near = some true
end Go.Proofs.Ytjhicedblobjfaa
