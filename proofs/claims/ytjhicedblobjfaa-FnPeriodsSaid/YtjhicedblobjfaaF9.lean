/- What the law FnEscapes asks of points of eighths. No program in sight. -/
import Derived.Test.YtjhicedblobjfaaF8
import Derived.Test.YtjhicedblobjfaaE5
import Derived.Test.YtjhicedblobjfaaA11
namespace Go.Proofs.Ytjhicedblobjfaa
open Ieee

theorem lat_ab {b : Nat} {k : Int} (h : Lat b k) : NumK .f32 b ((k : Rat) / 8) ∧ Ab ((k : Rat) / 8) 2 := by
  refine ⟨h.2.2, ?_, ?_⟩
  · have := Rat.intCast_le_intCast.2 h.1
    have e : ((-16 : Int) : Rat) = -16 := rfl
    rw [e] at this
    grind
  · have := Rat.intCast_le_intCast.2 h.2.1
    have e : ((16 : Int) : Rat) = 16 := rfl
    rw [e] at this
    grind

def LatC (a b : Nat) : Prop := ∃ i j, Lat a i ∧ Lat b j
theorem latC_num {a b : Nat} (h : LatC a b) : ∃ x y, CNum a b x y ∧ Ab x 2 ∧ Ab y 2 := by
  obtain ⟨i, j, h1, h2⟩ := h
  exact ⟨_, _, ⟨(lat_ab h1).1, (lat_ab h2).1⟩, (lat_ab h1).2, (lat_ab h2).2⟩
theorem latC_small {a b : Nat} (h : LatC a b) : SmallC a b := by
  obtain ⟨x, y, h1, h2, h3⟩ := latC_num h
  exact ab_small h1 h2 h3 (by decide +kernel)
theorem latC_ci {a b : Nat} (h : LatC a b) : ∃ i j : Int, CI a b (latK i) (latK j) ∧ -16 ≤ i ∧ i ≤ 16 ∧ -16 ≤ j ∧ j ≤ 16 := by
  obtain ⟨i, j, h1, h2⟩ := h
  exact ⟨i, j, ⟨lat_ni h1.2.2, lat_ni h2.2.2⟩, h1.1, h1.2.1, h2.1, h2.2.1⟩

theorem esc_lat {k : Int} (hk0 : 0 ≤ k) (hk : k ≤ 3) {ca cb a b : Nat} (hc : LatC ca cb) (hz : LatC a b) (f i : Nat) : ∃ n L, EscGood k ca cb a b f i n L := by
  obtain ⟨cx, cy, c1, c2, c3⟩ := latC_num hc
  obtain ⟨x, y, z1, z2, z3⟩ := latC_num hz
  exact esc_good hk0 hk c1 c2 c3 f i z1 (ab_mono z2 (by decide +kernel)) (ab_mono z3 (by decide +kernel))

theorem rest_lat {a b : Nat} (h : LatC a b) : ∃ r, RestGood a b r := by
  obtain ⟨i, j, c, i0, i1, j0, j1⟩ := latC_ci h
  exact rest_ci c (grid_ok rest_grid i j i0 i1 j0 j1)
theorem heart_lat {a b : Nat} (h : LatC a b) : ∃ t, heartF a b = some t ∧ (t = true → ∃ u v, escF 0 a b 40 0 0 0 = some (40, u, v)) := by
  obtain ⟨i, j, c, i0, i1, j0, j1⟩ := latC_ci h
  exact heart_ci c (grid_ok heart_grid i j i0 i1 j0 j1)

/-- a walk backwards, and what each of its numbers is turned into -/
structure WalkGood (ca cb : Nat) (z : Nat × Nat) (n : Nat) (L : List (Nat × Nat)) : Prop where
  back : Back ca cb z n L
  good : ∀ j, j < n → BackGood ca cb (oddN j) (prevN z L j) (L.getD j (0, 0))

theorem walk_some {ca cb : Nat} {cx cy : Rat} (hc : CNum ca cb cx cy) (dx : Ab cx 2) (dy : Ab cy 2) {a b : Nat} {x y : Rat} (h : CNum a b x y) (bx : Ab x (5 / 2)) (bY : Ab y (5 / 2)) :
    ∀ n, ∃ L p q, WalkGood ca cb (a, b) n L ∧ CNum (prevN (a, b) L n).1 (prevN (a, b) L n).2 p q ∧ Ab p (5 / 2) ∧ Ab q (5 / 2)
  | 0 => ⟨[], x, y, ⟨⟨rfl, fun j hj => absurd hj (by omega), fun j hj => absurd hj (by omega)⟩, fun j hj => absurd hj (by omega)⟩, h, bx, bY⟩
  | n + 1 => by
    obtain ⟨L, p, q, G, c, b1, b2⟩ := walk_some hc dx dy h bx bY n
    obtain ⟨z', p', q', B, c', d1, d2⟩ := back_good (oddN n) hc dx dy c b1 b2
    have hlen := G.back.len
    have get : ∀ j, j < n → (L ++ [z']).getD j (0, 0) = L.getD j (0, 0) := fun j hj => by
      simp [List.getD, List.getElem?_append_left (show j < L.length by omega)]
    have getn : (L ++ [z']).getD n (0, 0) = z' := by
      simp [List.getD, ← hlen]
    have prev : ∀ j, j ≤ n → prevN (a, b) (L ++ [z']) j = prevN (a, b) L j := fun j hj => by
      unfold prevN
      split
      · rfl
      · exact get _ (by omega)
    have good : ∀ j, j < n + 1 → BackGood ca cb (oddN j) (prevN (a, b) (L ++ [z']) j) ((L ++ [z']).getD j (0, 0)) := fun j hj => by
      rw [prev j (by omega)]
      by_cases hjn : j = n
      · subst hjn; rw [getn]; exact B
      · rw [get j (by omega)]; exact G.good j (by omega)
    refine ⟨L ++ [z'], p', q', ⟨⟨by simp [hlen], fun j hj => (good j hj).back, fun j hj => ?_⟩, good⟩, ?_, d1, d2⟩
    · by_cases hjn : j = n
      · subst hjn; rw [getn]; exact cnum_fin c'
      · rw [get j (by omega)]; exact G.back.fin j (by omega)
    · have : prevN (a, b) (L ++ [z']) (n + 1) = z' := by unfold prevN; rw [if_neg (by omega)]; exact getn
      rw [this]; exact c'

theorem walk_lat {ca cb a b : Nat} (hc : LatC ca cb) (hz : LatC a b) (n : Nat) : ∃ L, WalkGood ca cb (a, b) n L := by
  obtain ⟨cx, cy, c1, c2, c3⟩ := latC_num hc
  obtain ⟨x, y, z1, z2, z3⟩ := latC_num hz
  obtain ⟨L, _, _, G, _⟩ := walk_some c1 c2 c3 z1 (ab_mono z2 (by decide +kernel)) (ab_mono z3 (by decide +kernel)) n
  exact ⟨L, G⟩

theorem seed5 : (seedN 5 == 77) = false := by unfold seedN; decide +kernel
theorem l64_4 : NumK .f64 4616189618054758400 4 := num_lit .f64 4616189618054758400 false 4503599627370496 (-50) 4 (by kernel_rfl) (by kernel_rfl)
theorem l64_thousandth : NumK .f64 4562254508917369340 (1152921504606847 / 1152921504606846976) := num_lit .f64 4562254508917369340 false 4611686018427388 (-62) _ (by kernel_rfl) (by kernel_rfl)
theorem l64_hundredth : NumK .f64 4576918229304087675 (5764607523034235 / 576460752303423488) := num_lit .f64 4576918229304087675 false 5764607523034235 (-59) _ (by kernel_rfl) (by kernel_rfl)
end Go.Proofs.Ytjhicedblobjfaa
