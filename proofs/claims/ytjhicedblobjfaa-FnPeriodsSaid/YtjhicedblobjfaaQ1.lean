/- What the law FnPeriods asks, as contracts. -/
import Derived.Test.YtjhicedblobjfaaA16
import Derived.Test.YtjhicedblobjfaaA12
import Derived.Test.YtjhicedblobjfaaK3
import Derived.Test.YtjhicedblobjfaaC1
namespace Go.Proofs.Ytjhicedblobjfaa
open Go.RowKit Ieee

theorem le32_ngt {l c : Nat} (h : le32 l c = true) : (FloatKind.f32.format.order l c == some .gt) = false := by
  unfold le32 at h
  cases ho : FloatKind.f32.format.order l c with
  | none => rfl
  | some o => rw [ho] at h; cases o <;> first | rfl | (exact absurd h (by decide))

/-- a distance that is at most so much -/
theorem dist_yes {u x : Nat × Nat} {near : Nat} (h : distF u x near = some true) : ∃ e1 e2 l, subF u.1 u.2 x.1 x.2 = some (e1, e2) ∧ longF e1 e2 = some l ∧ le32 l near = true := by
  obtain ⟨e, he, h⟩ := bindS h
  obtain ⟨l, hl, h⟩ := bindS h
  simp only [pure, Option.some.injEq] at h
  exact ⟨e.1, e.2, l, he, hl, h⟩
theorem dist_no {u x : Nat × Nat} {near : Nat} (h : distF u x near = some false) : ∃ e1 e2 l, subF u.1 u.2 x.1 x.2 = some (e1, e2) ∧ longF e1 e2 = some l ∧ le32 l near = false := by
  obtain ⟨e, he, h⟩ := bindS h
  obtain ⟨l, hl, h⟩ := bindS h
  simp only [pure, Option.some.injEq] at h
  exact ⟨e.1, e.2, l, he, hl, h⟩

theorem small0 : SmallC 0 0 := ⟨0, 0, ⟨num0, num0⟩, ⟨by decide +kernel, by decide +kernel⟩, ⟨by decide +kernel, by decide +kernel⟩⟩
theorem near16 : NumK .f32 1031798784 (1 / 16) := num_lit .f32 1031798784 false 8388608 (-27) (1 / 16) (by kernel_rfl) (by kernel_rfl)

theorem period_calls {k : Int} (hk0 : 0 ≤ k) (hk : k ≤ 3) {ca cb : Nat} (hc : LatC ca cb) (w : World) :
    Calls Try.prog 10 #[.agg #[.int .i64 k, .complex .f32 ca cb], .complex .f32 0 0, .int .i64 4, .int .i64 12, .float .f32 1031798784] w fun e w' =>
      ∃ (b : Bool) (p : Nat) (L : List (Nat × Nat)), e = .returned (.tuple #[.int .i64 p, .bool b]) ∧ p ≤ 12 ∧ Hid (b = true → PerGood k ca cb 0 0 4 1031798784 p L) ∧ Below w.heap.size w w' := by
  refine (periodOf_any k hk0 hk ca cb 0 0 4 12 1031798784 (1 / 16) (by decide) (by decide) (by decide) near16 (by decide +kernel) w (latC_small hc) small0).mono ?_
  rintro e w' ⟨hb, rfl | ⟨p, L, rfl, hp, hG⟩⟩
  · exact ⟨false, 0, [], rfl, by omega, (fun h => absurd h (by decide)), hb⟩
  · exact ⟨true, p, L, rfl, hp, (fun _ => hG), hb⟩

/-! ### roots -/
theorem root_lat {n : Nat} (hn2 : 2 ≤ n) (hn6 : n ≤ 6) {a b : Nat} (hz : LatC a b) : RootGood n 60 (a, b) := by
  obtain ⟨i, j, h, i0, i1, j0, j1⟩ := latC_ci hz
  have : n = 2 ∨ n = 3 ∨ n = 4 ∨ n = 5 ∨ n = 6 := by omega
  rcases this with rfl | rfl | rfl | rfl | rfl
  · exact root_lat2 (z := (a, b)) h i0 i1 j0 j1
  · exact root_lat3 (z := (a, b)) h i0 i1 j0 j1
  · exact root_lat4 (z := (a, b)) h i0 i1 j0 j1
  · exact root_lat5 (z := (a, b)) h i0 i1 j0 j1
  · exact root_lat6 (z := (a, b)) h i0 i1 j0 j1

/-- what a root that is found tells -/
structure RootHit (n : Nat) (z : Nat × Nat) (k j : Nat) (L : List (Nat × Nat)) : Prop where
  lt : k < n
  le : j ≤ 60
  orb : OrbR n z j L
  near : distF (L.getD j (0, 0)) (phN n k) 981668463 = some true

theorem root_calls {n : Nat} (hn2 : 2 ≤ n) (hn6 : n ≤ 6) {a b : Nat} (hz : LatC a b) (w : World) :
    Calls Try.prog 13 #[.int .i64 n, .complex .f32 a b, .int .i64 60] w fun e w' =>
      ∃ (t : Bool) (k j : Nat) (L : List (Nat × Nat)), e = .returned (.tuple #[.int .i64 k, .int .i64 j, .bool t]) ∧ j ≤ 60 ∧ Hid (t = true → RootHit n (a, b) k j L) ∧ Below w.heap.size w w' := by
  refine (rootOf_any n hn2 hn6 (a, b) 60 (by decide) w (latC_small hz) (root_lat hn2 hn6 hz)).mono ?_
  rintro e w' ⟨hd, ⟨rfl, _⟩ | ⟨k, j, L, rfl, hk, hj, hO, hn, _⟩⟩
  · exact ⟨false, 0, 0, [], rfl, by omega, (fun h => absurd h (by decide)), hd.below _⟩
  · exact ⟨true, k, j, L, rfl, hj, (fun _ => ⟨hk, hj, hO, hn⟩), hd.below _⟩

theorem hit_step {n : Nat} (hn2 : 2 ≤ n) (hn6 : n ≤ 6) {z : Nat × Nat} {k j : Nat} {L : List (Nat × Nat)} (h : RootHit n z k j L) {i : Nat} (hi : i < j) (w : World) :
    Calls Try.prog 14 #[.int .i64 n, .complex .f32 (L.getD i (0, 0)).1 (L.getD i (0, 0)).2] w fun e w' =>
      e = .returned (.tuple #[.complex .f32 (L.getD (i + 1) (0, 0)).1 (L.getD (i + 1) (0, 0)).2, .bool true]) ∧ w = w' :=
  rootStep_any n hn2 hn6 _ _ _ w (h.orb.small i hi) (h.orb.next i hi) (fair_fin (h.orb.fair (i + 1) (by omega)))

theorem l64_15thou : NumK .f64 4564560351926583034 (6917529027641082 / 4611686018427387904) := num_lit .f64 4564560351926583034 false 6917529027641082 (-62) _ (by kernel_rfl) (by kernel_rfl)
/-- the end of the steps -/
theorem hit_end {n : Nat} (hn2 : 2 ≤ n) (hn6 : n ≤ 6) {z : Nat × Nat} {k j : Nat} {L : List (Nat × Nat)} (h : RootHit n z k j L) :
    ∃ t e1 e2 l W : Nat, fdiv .f64 (floatOfInt .f64 (k : Int)) (floatOfInt .f64 (n : Int)) = some t ∧
      (∀ w, Calls Try.prog 15 #[.float .f64 t] w fun e w' => e = .returned (.complex .f32 (phN n k).1 (phN n k).2) ∧ w = w') ∧
      subF (L.getD j (0, 0)).1 (L.getD j (0, 0)).2 (phN n k).1 (phN n k).2 = some (e1, e2) ∧
      (∀ w, Calls Try.prog 12 #[.complex .f32 e1 e2] w fun e w' => e = .returned (.float .f32 l) ∧ w = w') ∧
      widen l = some W ∧ (FloatKind.f64.format.order W 4564560351926583034 == some .gt) = false := by
  obtain ⟨t, ht, hph⟩ := ph_all n k hn2 hn6 h.lt
  obtain ⟨e1, e2, l, hs, hl, hle⟩ := dist_yes h.near
  obtain ⟨e', l', v, hs', hl', nv, v0⟩ := dist_some (h.orb.fair j (Nat.le_refl _)) (ph_fair n k hn2 hn6 h.lt)
  rw [hs] at hs'
  cases hs'
  rw [hl] at hl'
  cases hl'
  rw [le32_num nv l32_thou, decide_eq_true_eq] at hle
  obtain ⟨W, hW, nW, _⟩ := widen_num nv
  have hc : (8589935 / 8589934592 : Rat) ≤ 6917529027641082 / 4611686018427387904 := by decide +kernel
  exact ⟨t, e1, e2, l, W, ht, fun w => phasorOf_any t _ w hph, hs, fun w => longOf_any e1 e2 l w hl, hW, ord_ngt nW l64_15thou (Rat.le_trans hle hc)⟩

/-- the first root is near itself and far from one -/
theorem ph_dist (n : Nat) (hn2 : 2 ≤ n) (hn6 : n ≤ 6) : distF (phN n 1) (phN n 0) 981668463 = some false ∧ distF (phN n 1) (phN n 1) 981668463 = some true := by
  have : n = 2 ∨ n = 3 ∨ n = 4 ∨ n = 5 ∨ n = 6 := by omega
  rcases this with rfl | rfl | rfl | rfl | rfl <;> refine ⟨?_, ?_⟩ <;> (show distF _ _ _ = some _; kernel_rfl)

theorem start_calls {n : Nat} (hn2 : 2 ≤ n) (hn6 : n ≤ 6) : ∃ t : Nat, fdiv .f64 4607182418800017408 (floatOfInt .f64 (n : Int)) = some t ∧
    (∀ w, Calls Try.prog 15 #[.float .f64 t] w fun e w' => e = .returned (.complex .f32 (phN n 1).1 (phN n 1).2) ∧ w = w') ∧
    (∀ w, Calls Try.prog 13 #[.int .i64 n, .complex .f32 (phN n 1).1 (phN n 1).2, .int .i64 0] w fun e w' => e = .returned (.tuple #[.int .i64 1, .int .i64 0, .bool true]) ∧ Below w.heap.size w w') := by
  obtain ⟨t, ht, hph⟩ := ph_all n 1 hn2 hn6 (by omega)
  have e1 : floatOfInt .f64 ((1 : Nat) : Int) = 4607182418800017408 := by kernel_rfl
  rw [e1] at ht
  refine ⟨t, ht, fun w => phasorOf_any t _ w hph, fun w => ?_⟩
  have hf := ph_fair n 1 hn2 hn6 (by omega)
  have hs : SmallC (phN n 1).1 (phN n 1).2 := by
    have key : ∀ a b : Nat, (∃ x, NI a x ∧ smallK x = true) → (∃ x, NI b x ∧ smallK x = true) → SmallC a b := by
      rintro a b ⟨x, h1, s1⟩ ⟨y, h2, s2⟩
      exact small_ci ⟨h1, h2⟩ s1 s2
    have : n = 2 ∨ n = 3 ∨ n = 4 ∨ n = 5 ∨ n = 6 := by omega
    rcases this with rfl | rfl | rfl | rfl | rfl
    · exact key _ _ ⟨_, ni_3212836864, by decide +kernel⟩ ⟨_, ni_0, by decide +kernel⟩
    · exact key _ _ ⟨_, ni_3204448256, by decide +kernel⟩ ⟨_, ni_1063105495, by decide +kernel⟩
    · exact key _ _ ⟨_, ni_0, by decide +kernel⟩ ⟨_, ni_1065353216, by decide +kernel⟩
    · exact key _ _ ⟨_, ni_1050556282, by decide +kernel⟩ ⟨_, ni_1064532081, by decide +kernel⟩
    · exact key _ _ ⟨_, ni_1056964608, by decide +kernel⟩ ⟨_, ni_1063105495, by decide +kernel⟩
  obtain ⟨d0, d1⟩ := ph_dist n hn2 hn6
  refine (rootOf_any n hn2 hn6 (phN n 1) 0 (by decide) w hs hf).mono ?_
  rintro e w' ⟨hd, ⟨rfl, j, z, hj, hR, hno⟩ | ⟨k, j, L, rfl, hk, hj, hO, hn, hmin⟩⟩
  · exfalso
    have hj0 : j = 0 := by omega
    subst hj0
    rcases hR with ⟨L, hO, hz, _⟩ | ⟨h1, _⟩
    · rw [hO.first] at hz
      subst hz
      exact hno 1 (by omega) d1
    · omega
  · have hj0 : j = 0 := by omega
    subst hj0
    rw [hO.first] at hn hmin
    have hk1 : k = 1 := by
      rcases (by omega : k = 0 ∨ k = 1 ∨ 1 < k) with rfl | h | h
      · rw [d0] at hn; cases hn
      · exact h
      · exact absurd d1 (hmin 1 h)
    subst hk1
    exact ⟨rfl, hd.below _⟩

/-! ### escapes, borders, spreads -/
theorem orb_take {k : Int} {ca cb a b n : Nat} {L : List (Nat × Nat)} (h : Orb k ca cb a b n L) {m : Nat} (hm : m ≤ n) : Orb k ca cb a b m (L.take (m + 1)) ∧ ∀ j, j ≤ m → (L.take (m + 1)).getD j (0, 0) = L.getD j (0, 0) := by
  have hlen := h.len
  have get : ∀ j, j ≤ m → (L.take (m + 1)).getD j (0, 0) = L.getD j (0, 0) := fun j hj => by
    simp only [List.getD, List.getElem?_take]
    rw [if_pos (by omega)]
  refine ⟨⟨by simp [hlen]; omega, by rw [get 0 (by omega)]; exact h.first, fun j hj => ?_, fun j hj => ?_, fun j hj => ?_⟩, get⟩
  · rw [get j (by omega), get (j + 1) (by omega)]; exact h.next j (by omega)
  · rw [get j (by omega)]; exact h.small j (by omega)
  · rw [get j (by omega)]; exact h.fin j (by omega)

theorem first_out {k : Int} (hk0 : 0 ≤ k) (hk : k ≤ 3) {ca cb : Nat} (hc : LatC ca cb) {d m : Nat} {L : List (Nat × Nat)} (G : EscGood k ca cb 0 0 12 0 d L) (hm : m ≤ d) (hd : d ≤ m + 1) (hmd : d < m + 1 → d < 12) :
    FirstOut (m + 1) d (L.take (m + 1)) := by
  obtain ⟨cx, cy, c1, c2, c3⟩ := latC_num hc
  obtain ⟨_, get⟩ := orb_take G.orb hm
  have ab0 : Ab (0 : Rat) 11 := by constructor <;> decide +kernel
  have hv := esc_val hk0 hk c1 c2 c3 (a := 0) (b := 0) ⟨num0, num0⟩ ab0 ab0 G
  refine ⟨hd, fun j hj => ?_, fun j hj => ?_, fun h => ?_⟩
  · rw [get j (by omega)]; exact hv j (by omega)
  · rw [get j (by omega)]
    obtain ⟨p, q, e, n, h1, _⟩ := G.pow j (by omega)
    refine ⟨p, e, ?_⟩
    rw [outB_num n]
    have := h1 (by omega)
    simp only [decide_eq_false_iff_not]; grind
  · rw [get d (by omega)]
    obtain ⟨p, q, e, n, _, h2⟩ := G.pow d (Nat.le_refl _)
    refine ⟨p, e, ?_⟩
    rw [outB_num n]
    have := (h2 rfl (hmd h)).1
    simp only [decide_eq_true_eq]; exact this

theorem bord_esc {ca cb : Nat} : ∀ (f : Nat) {z d zf df : Nat × Nat} {i u v : Nat}, bordF ca cb f z d = some (zf, df) → escF 0 ca cb (f + 1) i z.1 z.2 = some (i + (f + 1), u, v) → ∃ p, powerF zf.1 zf.2 = some p ∧ outB p = false
  | 0, z, d, zf, df, i, u, v, hb, he => by
    have hb' : some (z, d) = some (zf, df) := hb
    simp only [Option.some.injEq, Prod.mk.injEq] at hb'
    obtain ⟨rfl, rfl⟩ := hb'
    obtain ⟨p, hp⟩ := escF_pow he
    refine ⟨p, hp, ?_⟩
    cases ho : outB p
    · rfl
    · have := escF_stop he hp ho
      simp only [Prod.mk.injEq] at this
      omega
  | f + 1, z, d, zf, df, i, u, v, hb, he => by
    obtain ⟨p, hp⟩ := escF_pow he
    cases ho : outB p
    · obtain ⟨z', hz, he'⟩ := escF_go he hp ho
      obtain ⟨s, m, d', q, z'', e1, e2, e3, e4, e5, hb'⟩ := bordF_go hb hp ho
      have hzz : z' = z'' := by
        unfold onceF at hz
        rw [if_neg (by decide), if_neg (by decide), if_neg (by decide)] at hz
        obtain ⟨q', f1, f2⟩ := bindS hz
        rw [e4] at f1
        cases f1
        rw [e5] at f2
        cases f2; rfl
      subst hzz
      have e : i + (f + 1 + 1) = (i + 1) + (f + 1) := by omega
      rw [e] at he'
      exact bord_esc f hb' he'
    · have := escF_stop he hp ho
      simp only [Prod.mk.injEq] at this
      omega

theorem border_calls {a b : Nat} (h : LatC a b) : ∃ t : Bool, (∀ w, Calls Try.prog 20 #[.complex .f32 a b] w fun e w' => e = .returned (.bool t) ∧ w = w') ∧
    ∀ w, Calls Try.prog 19 #[.complex .f32 a b, .int .i64 40] w fun e w' => ∃ r : Nat, e = .returned (.tuple #[.float .f32 r, .bool true]) ∧
      (FloatKind.f32.format.order r 0 == some .gt || FloatKind.f32.format.order r 0 == some .eq) = true ∧ Hid (t = true → (FloatKind.f32.format.order r 0 == some .eq) = true) ∧ w = w' := by
  obtain ⟨i, j, c, i0, i1, j0, j1⟩ := latC_ci h
  obtain ⟨t, h1, h2⟩ := heart_ci c (grid_ok heart_grid41 i j i0 i1 j0 j1)
  have oc : ok2 (latK i) (latK j) = true := by
    have hh := grid_ok heart_grid41 i j i0 i1 j0 j1
    unfold heartK at hh
    rw [Bool.and_eq_true] at hh
    exact hh.1
  have z0 : CI 0 0 (.ofNat 0) (.ofNat 0) := ⟨ni_zero, ni_zero⟩
  obtain ⟨zf, df, x', y', s', t', hb, hE⟩ := bord_ci c oc 40 (z := (0, 0)) (d := (0, 0)) z0 z0 (grid_ok bord_grid i j i0 i1 j0 j1)
  have sc := latC_small h
  refine ⟨t, fun w => inHeart_any a b t w sc h1, fun w => ?_⟩
  refine (borderOf_any a b zf df w sc hb (bordEnd_good hE)).mono ?_
  rintro e w' ⟨r, rv, rfl, nr, r0, hz, rfl⟩
  refine ⟨r, rfl, ord_ge nr num0 r0, fun ht => ?_, rfl⟩
  obtain ⟨u, v, he⟩ := h2 ht
  obtain ⟨p, hp, ho⟩ := bord_esc 40 (z := (0, 0)) (d := (0, 0)) hb (i := 0) (u := u) (v := v) (by simpa using he)
  have := hz p hp ho
  subst this
  exact ord_eq nr num0

theorem spread_calls {ca cb a b : Nat} (hc : LatC ca cb) (hz : LatC a b) : ∃ r : Nat, (FloatKind.f32.format.order r 0 == some .gt || FloatKind.f32.format.order r 0 == some .eq) = true ∧
    ∀ w, Calls Try.prog 18 #[.agg #[.int .i64 0, .complex .f32 ca cb], .complex .f32 a b] w fun e w' => e = .returned (.tuple #[.float .f32 r, .bool true]) ∧ Below w.heap.size w w' := by
  obtain ⟨x, y, c, bx, bY⟩ := latC_num hz
  obtain ⟨l, p, s, v, e1, nv, k1, p0, hs, j, v0⟩ := longF_num c bx bY (cst30 (by decide +kernel))
  have e4 : (2 * 2 + 2 * 2 : Rat) ≤ 16 := by decide +kernel
  have r16 : Rep FloatKind.f64.format 16 := rep_n .f64 16 (by decide) _ (by decide +kernel)
  have pb := near_ab k1 r16 (ab_mono (ab_add (ab_mul bx bx) (ab_mul bY bY)) e4)
  have sb : s ≤ 16 := by
    rcases hs with ⟨_, h⟩ | ⟨_, s0, hr⟩
    · grind
    · have := (nearRoot_bd s0 hr).1
      have e16 : (4 : Rat) * 4 = 16 := by decide +kernel
      have p16 := pb.2
      have h4 : s - s / 9007199254740992 ≤ 4 := le_of_sq (by decide +kernel) (by rw [e16]; exact Rat.le_trans this p16)
      grind
  have vb : v ≤ 16 := near_le j (rq32 16 1 0 false 16 (by decide) (by decide) (by decide) (by decide +kernel)) sb
  have t1 := lt_top32 (x := 2 * v) (by grind) (by grind)
  obtain ⟨r, z, e2, nr, kr⟩ := mul_num two32 nv t1.1 t1.2
  have z0 : 0 ≤ z := near_ge kr (rep0 .f32) (by grind)
  exact ⟨r, ord_ge nr num0 z0, fun w => spreadOf_any ca cb a b l r w (latC_small hc) (latC_small hz) e1 e2 ⟨z, nr⟩⟩
end Go.Proofs.Ytjhicedblobjfaa
