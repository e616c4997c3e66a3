/- Walks: the root that steps lead to. -/
import Derived.Test.YtjhicedblobjfaaMQ
import Derived.Test.YtjhicedblobjfaaMN
namespace Go.Proofs.Ytjhicedblobjfaa
open Go.RowKit Ieee

/-- a thousandth as the program has it -/
theorem l32_thou : NumK .f32 981668463 (8589935 / 8589934592) := num_lit .f32 981668463 false 8589935 (-33) _ (by kernel_rfl) (by kernel_rfl)

theorem rootGood_fair {n : Nat} : ∀ {f : Nat} {z : Nat × Nat}, RootGood n f z → Fair z
  | 0, _, h => h
  | _ + 1, _, h => h.1

/-- steps to a root, and what they are -/
structure OrbR (n : Nat) (z : Nat × Nat) (j : Nat) (L : List (Nat × Nat)) : Prop where
  len : L.length = j + 1
  first : L.getD 0 (0, 0) = z
  next : ∀ i, i < j → stepF n (L.getD i (0, 0)).1 (L.getD i (0, 0)).2 = some (L.getD (i + 1) (0, 0))
  small : ∀ i, i < j → SmallC (L.getD i (0, 0)).1 (L.getD i (0, 0)).2
  fair : ∀ i, i ≤ j → Fair (L.getD i (0, 0))

theorem orbR_more {n j : Nat} {z z' : Nat × Nat} {L : List (Nat × Nat)} (h : OrbR n z j L) (hs : SmallC (L.getD j (0, 0)).1 (L.getD j (0, 0)).2)
    (e : stepF n (L.getD j (0, 0)).1 (L.getD j (0, 0)).2 = some z') (hf : Fair z') : OrbR n z (j + 1) (L ++ [z']) ∧ (L ++ [z']).getD (j + 1) (0, 0) = z' := by
  have hlen := h.len
  have get : ∀ i, i ≤ j → (L ++ [z']).getD i (0, 0) = L.getD i (0, 0) := fun i hi => by
    simp [List.getD, List.getElem?_append_left (show i < L.length by omega)]
  have getn : (L ++ [z']).getD (j + 1) (0, 0) = z' := by
    simp [List.getD, ← hlen]
  refine ⟨⟨by simp [hlen], by rw [get 0 (by omega)]; exact h.first, fun i hi => ?_, fun i hi => ?_, fun i hi => ?_⟩, getn⟩
  · rw [get i (by omega)]
    by_cases hij : i = j
    · subst hij; rw [getn]; exact e
    · rw [get (i + 1) (by omega)]; exact h.next i (by omega)
  · rw [get i (by omega)]
    by_cases hij : i = j
    · subst hij; exact hs
    · exact h.small i (by omega)
  · by_cases hij : i = j + 1
    · subst hij; rw [getn]; exact hf
    · rw [get i (by omega)]; exact h.fair i (by omega)

/-- where the steps stand -/
def RState (n : Nat) (z0 : Nat × Nat) (most j : Nat) (z : Nat × Nat) : Prop :=
  (∃ L, OrbR n z0 j L ∧ L.getD j (0, 0) = z ∧ RootGood n (most - j) z) ∨ (1 ≤ j ∧ NanB .f32 z.1 ∧ NanB .f32 z.2)
theorem rstate_fair {n : Nat} {z0 : Nat × Nat} {most j : Nat} {z : Nat × Nat} (h : RState n z0 most j z) : Fair z ∨ (NanB .f32 z.1 ∧ NanB .f32 z.2) := by
  rcases h with ⟨_, _, _, h⟩ | h
  · exact Or.inl (rootGood_fair h)
  · exact Or.inr h.2

theorem le32_nan {l c : Nat} (h : NanB .f32 l) : le32 l c = false := by unfold le32; rw [nan_order h]; rfl

/-- a length, measured against a thousandth -/
theorem dist_state {z ph : Nat × Nat} (hs : Fair z ∨ (NanB .f32 z.1 ∧ NanB .f32 z.2)) (hp : Fair ph) : ∃ t : Bool,
    (∀ w, Calls Try.prog 53 #[.complex .f32 z.1 z.2, .complex .f32 ph.1 ph.2] w fun e w' => ∃ a b, e = .returned (.complex .f32 a b) ∧ Drew w w' ∧
      Hid (∀ w2, Calls Try.prog 12 #[.complex .f32 a b] w2 fun e w' => ∃ l, e = .returned (.float .f32 l) ∧ Drew w2 w' ∧ le32 l 981668463 = t)) ∧
    (t = true → Fair z ∧ distF z ph 981668463 = some true) ∧ (distF z ph 981668463 = some true → Fair z → t = true) := by
  rcases hs with hz | ⟨n1, n2⟩
  · obtain ⟨e, l, v, e1, e2, nv, v0⟩ := dist_some hz hp
    refine ⟨le32 l 981668463, fun w => ?_, fun h => ⟨hz, by simp [distF, e1, e2, h]⟩, fun h _ => ?_⟩
    · refine (subtract_any z.1 z.2 ph.1 ph.2 e w e1).mono ?_
      rintro _ w1 ⟨rfl, rfl⟩
      refine ⟨e.1, e.2, rfl, Drew.refl _, fun w2 => ?_⟩
      refine (longOf_any e.1 e.2 l w2 e2).mono ?_
      rintro _ w3 ⟨rfl, rfl⟩
      exact ⟨l, rfl, Drew.refl _, rfl⟩
    · simpa [distF, e1, e2] using h
  · refine ⟨false, fun w => ?_, fun h => absurd h (by decide), fun h hf => ?_⟩
    · refine (subtract_nan z.1 z.2 ph.1 ph.2 w n1 n2).mono ?_
      rintro _ w1 ⟨a, b, rfl, na, nb, hd⟩
      refine ⟨a, b, rfl, hd, fun w2 => ?_⟩
      refine (longOf_nan a b w2 na nb).mono ?_
      rintro _ w3 ⟨l, rfl, nl, hd⟩
      exact ⟨l, rfl, hd, le32_nan nl⟩
    · exfalso
      obtain ⟨x, y, c, _⟩ := hf
      obtain ⟨s, t, h1⟩ := n1
      obtain ⟨s', m, e, h2, _⟩ := c.1
      rw [h1] at h2; cases h2

theorem small_state {z : Nat × Nat} (hs : Fair z ∨ (NanB .f32 z.1 ∧ NanB .f32 z.2)) : ∃ s : Bool,
    (∀ w, Calls Try.prog 48 #[.complex .f32 z.1 z.2] w fun e w' => e = .returned (.bool s) ∧ Drew w w') ∧ (s = true → SmallC z.1 z.2) := by
  rcases hs with hz | ⟨n1, n2⟩
  · obtain ⟨s, h1, h2⟩ := fair_isSmall z hz
    exact ⟨s, fun w => (h1 w).mono (by rintro _ w' ⟨rfl, rfl⟩; exact ⟨rfl, Drew.refl _⟩), h2⟩
  · exact ⟨false, fun w => isSmall_nan z.1 z.2 w n1, fun h => absurd h (by decide)⟩

theorem ph_fair (n k : Nat) (hn2 : 2 ≤ n) (hn6 : n ≤ 6) (hk : k < n) : Fair (phN n k) := by
  have key : ∀ a b : Nat, (∃ x, NI a x ∧ okI x = true) → (∃ x, NI b x ∧ okI x = true) → Fair (a, b) := by
    rintro a b ⟨x, h1, o1⟩ ⟨y, h2, o2⟩
    exact ci_fair (z := (a, b)) ⟨h1, h2⟩ o1 o2
  have : n = 2 ∨ n = 3 ∨ n = 4 ∨ n = 5 ∨ n = 6 := by omega
  rcases this with rfl | rfl | rfl | rfl | rfl
  · have : k = 0 ∨ k = 1 := by omega
    rcases this with rfl | rfl
    · exact key _ _ ⟨_, ni_1065353216, ok_1065353216⟩ ⟨_, ni_0, ok_0⟩
    · exact key _ _ ⟨_, ni_3212836864, ok_3212836864⟩ ⟨_, ni_0, ok_0⟩
  · have : k = 0 ∨ k = 1 ∨ k = 2 := by omega
    rcases this with rfl | rfl | rfl
    · exact key _ _ ⟨_, ni_1065353216, ok_1065353216⟩ ⟨_, ni_0, ok_0⟩
    · exact key _ _ ⟨_, ni_3204448256, ok_3204448256⟩ ⟨_, ni_1063105495, ok_1063105495⟩
    · exact key _ _ ⟨_, ni_3204448256, ok_3204448256⟩ ⟨_, ni_3210589143, ok_3210589143⟩
  · have : k = 0 ∨ k = 1 ∨ k = 2 ∨ k = 3 := by omega
    rcases this with rfl | rfl | rfl | rfl
    · exact key _ _ ⟨_, ni_1065353216, ok_1065353216⟩ ⟨_, ni_0, ok_0⟩
    · exact key _ _ ⟨_, ni_0, ok_0⟩ ⟨_, ni_1065353216, ok_1065353216⟩
    · exact key _ _ ⟨_, ni_3212836864, ok_3212836864⟩ ⟨_, ni_0, ok_0⟩
    · exact key _ _ ⟨_, ni_0, ok_0⟩ ⟨_, ni_3212836864, ok_3212836864⟩
  · have : k = 0 ∨ k = 1 ∨ k = 2 ∨ k = 3 ∨ k = 4 := by omega
    rcases this with rfl | rfl | rfl | rfl | rfl
    · exact key _ _ ⟨_, ni_1065353216, ok_1065353216⟩ ⟨_, ni_0, ok_0⟩
    · exact key _ _ ⟨_, ni_1050556282, ok_1050556282⟩ ⟨_, ni_1064532081, ok_1064532081⟩
    · exact key _ _ ⟨_, ni_3209632701, ok_3209632701⟩ ⟨_, ni_1058437400, ok_1058437400⟩
    · exact key _ _ ⟨_, ni_3209632701, ok_3209632701⟩ ⟨_, ni_3205921048, ok_3205921048⟩
    · exact key _ _ ⟨_, ni_1050556282, ok_1050556282⟩ ⟨_, ni_3212015729, ok_3212015729⟩
  · have : k = 0 ∨ k = 1 ∨ k = 2 ∨ k = 3 ∨ k = 4 ∨ k = 5 := by omega
    rcases this with rfl | rfl | rfl | rfl | rfl | rfl
    · exact key _ _ ⟨_, ni_1065353216, ok_1065353216⟩ ⟨_, ni_0, ok_0⟩
    · exact key _ _ ⟨_, ni_1056964608, ok_1056964608⟩ ⟨_, ni_1063105495, ok_1063105495⟩
    · exact key _ _ ⟨_, ni_3204448256, ok_3204448256⟩ ⟨_, ni_1063105495, ok_1063105495⟩
    · exact key _ _ ⟨_, ni_3212836864, ok_3212836864⟩ ⟨_, ni_0, ok_0⟩
    · exact key _ _ ⟨_, ni_3204448256, ok_3204448256⟩ ⟨_, ni_3210589143, ok_3210589143⟩
    · exact key _ _ ⟨_, ni_1056964608, ok_1056964608⟩ ⟨_, ni_3210589143, ok_3210589143⟩

theorem near_dist {z ph : Nat × Nat} (h : NearBy (1 / 1000) z ph) : distF z ph 981668463 = some true := by
  obtain ⟨e, l, v, e1, e2, nv, hv⟩ := h
  have : le32 l 981668463 = true := by
    rw [le32_num nv l32_thou]
    have : (1 / 1000 : Rat) ≤ 8589935 / 8589934592 := by decide +kernel
    simp only [decide_eq_true_eq]; grind
  simp [distF, e1, e2, this]

/-- a step from where the steps stand -/
theorem step_state {n : Nat} (hn2 : 2 ≤ n) (hn6 : n ≤ 6) {z0 : Nat × Nat} {most j : Nat} (hj : j < most) {z : Nat × Nat} (h : RState n z0 most j z) (hs : SmallC z.1 z.2)
    (hno : ∀ k, k < n → distF z (phN n k) 981668463 ≠ some true) :
    ∀ w, Calls Try.prog 60 #[.int .i64 n, .complex .f32 z.1 z.2] w fun e w' => ∃ z' : Nat × Nat, e = .returned (.complex .f32 z'.1 z'.2) ∧ Drew w w' ∧ Hid (RState n z0 most (j + 1) z') := by
  intro w
  rcases h with ⟨L, hO, hz, hG⟩ | ⟨_, n1, _⟩
  · obtain ⟨f, hf⟩ : ∃ f, most - j = f + 1 := ⟨most - j - 1, by omega⟩
    rw [hf] at hG
    rcases hG.2 with hF | hF | hF | ⟨z', e, hG'⟩
    · obtain ⟨k, hk, hn⟩ := hF
      exact absurd (near_dist hn) (hno k hk)
    · exact absurd hs hF
    · refine (step_zero n hn2 hn6 z w hF).mono ?_
      rintro _ w' ⟨r, i, rfl, nr, ni, hd⟩
      exact ⟨(r, i), rfl, hd, Or.inr ⟨by omega, nr, ni⟩⟩
    · refine (step_any n hn2 hn6 z.1 z.2 z' w e).mono ?_
      rintro _ w' ⟨rfl, rfl⟩
      obtain ⟨g1, g2⟩ := orbR_more hO (by rw [hz]; exact hs) (by rw [hz]; exact e) (rootGood_fair hG')
      refine ⟨z', rfl, Drew.refl _, Or.inl ⟨_, g1, g2, ?_⟩⟩
      have : most - (j + 1) = f := by omega
      rw [this]; exact hG'
  · exfalso
    obtain ⟨x, y, c, _⟩ := hs
    obtain ⟨s, t, h1⟩ := n1
    obtain ⟨s', m, e, h2, _⟩ := c.1
    rw [h1] at h2; cases h2

/-- what the search for a root gives -/
def RootPost (n : Nat) (z0 : Nat × Nat) (most : Nat) (w : World) (e : Ending) (w' : World) : Prop :=
  Drew w w' ∧ ((e = .returned (.tuple #[.int .i64 0, .int .i64 0, .bool false]) ∧ ∃ j z, j ≤ most ∧ RState n z0 most j z ∧ ∀ i, i < n → distF z (phN n i) 981668463 ≠ some true) ∨
    ∃ (k j : Nat) (L : List (Nat × Nat)), e = .returned (.tuple #[.int .i64 k, .int .i64 j, .bool true]) ∧ k < n ∧ j ≤ most ∧
      OrbR n z0 j L ∧ distF (L.getD j (0, 0)) (phN n k) 981668463 = some true ∧ ∀ i, i < k → distF (L.getD j (0, 0)) (phN n i) 981668463 ≠ some true)

section
set_option maxHeartbeats 0
set_option maxRecDepth 100000

theorem rootOf_walk (n : Nat) (hn2 : 2 ≤ n) (hn6 : n ≤ 6) (z0 : Nat × Nat) (most : Nat) (hm : most ≤ 128) (w : World) (h : RootGood n most z0) :
    Calls Try.prog 58 #[.int .i64 n, .complex .f32 z0.1 z0.2, .int .i64 most] w (RootPost n z0 most w) := by
  have HS : Hid (RState n z0 most 0 z0) := Or.inl ⟨[z0], ⟨rfl, rfl, fun i hi => absurd hi (by omega), fun i hi => absurd hi (by omega), fun i hi => by
    obtain rfl : i = 0 := by omega
    exact rootGood_fair h⟩, rfl, h⟩
  clear h
  go_enter Try.func58, Try.ntmps58
  go_wp2
  go_loopw [1, 9] (fun zz ss wr => ∃ (j : Nat) (z : Nat × Nat), j ≤ most ∧ ss = .int .i64 j ∧ zz = .complex .f32 z.1 z.2 ∧ Hid (RState n z0 most j z) ∧ Drew w wr) (fun _ ss _ => most + 1 - (intOf ss).toNat)
  case atStart => exact ⟨0, z0, by omega, rfl, rfl, HS, Drew.refl _⟩
  case round =>
    obtain ⟨j, z, hj, rfl, rfl, HR, hdr⟩ := hrel
    have HD := Lib.hid hdr
    clear HS hdr
    go_wp2
    go_loopw [14] (fun kk wr2 => ∃ k : Nat, k ≤ n ∧ kk = .int .i64 k ∧ Drew wr wr2 ∧ Hid (∀ i, i < k → distF z (phN n i) 981668463 ≠ some true)) (fun kk _ => n - (intOf kk).toNat)
    case atStart => exact ⟨0, by omega, rfl, Drew.refl _, fun i hi => absurd hi (by omega)⟩
    case round =>
      obtain ⟨k, hk, rfl, hdk, HN⟩ := hrel
      have HDK := Lib.hid hdk
      clear hdk
      by_cases hkn : k < n
      · obtain ⟨t, ht, hph⟩ := ph_all n k hn2 hn6 hkn
        obtain ⟨b, D1, D2, D3⟩ := dist_state (rstate_fair HR.out) (ph_fair n k hn2 hn6 hkn)
        have KP := Lib.hid (fun w => phasorOf_any t (phN n k) w hph)
        obtain ⟨ph, hphe⟩ : ∃ ph, ph = phN n k := ⟨_, rfl⟩
        rw [← hphe] at KP D1 D2 D3
        have HPH := Lib.hid hphe
        have D1 := Lib.hid D1
        have D2 := Lib.hid D2
        have D3 := Lib.hid D3
        clear hph hphe
        go_wp2_with fail
        refine (KP.out _).mono ?_
        rintro e w1 ⟨rfl, rfl⟩
        go_wp2_with fail
        refine (D1.out _).mono ?_
        rintro e w1 ⟨a, b', rfl, hd1, HL⟩
        have HD1 := Lib.hid hd1
        clear hd1
        go_wp2_with fail
        refine (HL.out _).mono ?_
        rintro e w2 ⟨l, rfl, hd2, hle⟩
        have HD2 := Lib.hid hd2
        clear hd2 ht
        unfold le32 at hle
        cases b
        · have HN2 : Hid (∀ i, i < k + 1 → distF z (phN n i) 981668463 ≠ some true) := by
            intro i hi
            by_cases hik : i = k
            · subst hik
              rw [← HPH.out]
              intro hd
              rcases rstate_fair HR.out with hf | ⟨n1, n2⟩
              · have := D3.out hd hf; cases this
              · obtain ⟨s, t', h1⟩ := n1
                obtain ⟨s', t'', h1'⟩ := n2
                obtain ⟨e', he', hd'⟩ := bindS hd
                obtain ⟨x, hx, _⟩ := bindS he'
                have := nan_sub (k := .f32) (a := z.1) (b := ph.1) ⟨s, t', h1⟩
                rw [this] at hx; cases hx
            · exact HN.out i (by omega)
          clear HN D1 D2 D3 KP HL
          go_wp2_with fail
          go_roundw
          case rel => exact ⟨k + 1, by omega, by go_num, HDK.out.trans (HD1.out.trans HD2.out), HN2⟩
          case measure => simp [intOf]; omega
        · clear D1 D3 KP HL
          go_wp2_with fail
          go_ret3
          refine ⟨HD.out.trans (HDK.out.trans (HD1.out.trans HD2.out)), Or.inr ?_⟩
          obtain ⟨hf, hdt⟩ := D2.out (by first | rfl | trivial)
          rcases HR.out with ⟨L, hO, hz, _⟩ | ⟨_, n1, _⟩
          · exact ⟨k, j, L, rfl, hkn, hj, hO, by rw [hz, ← HPH.out]; exact hdt, fun i hi => by rw [hz]; exact HN.out i hi⟩
          · exfalso
            obtain ⟨x, y, c, _⟩ := hf
            obtain ⟨s, t, h1⟩ := n1
            obtain ⟨s', m, e, h2, _⟩ := c.1
            rw [h1] at h2; cases h2
      · have hkn' : k = n := by omega
        subst hkn'
        by_cases hjm : j = most
        · subst hjm
          go_wp2_with fail
          go_ret3
          exact ⟨HD.out.trans HDK.out, Or.inl ⟨rfl, j, z, hj, HR.out, HN.out⟩⟩
        · have hne : ((j : Int) == (most : Int)) = false := by simp; omega
          obtain ⟨s, S1, S2⟩ := small_state (rstate_fair HR.out)
          have S1 := Lib.hid S1
          cases s
          · clear S2
            go_wp2_with fail
            refine (S1.out _).mono ?_
            rintro e w1 ⟨rfl, hd1⟩
            have HD1 := Lib.hid hd1
            clear hd1
            go_wp2_with fail
            go_ret3
            exact ⟨HD.out.trans (HDK.out.trans HD1.out), Or.inl ⟨rfl, j, z, hj, HR.out, HN.out⟩⟩
          · have ST := Lib.hid (step_state hn2 hn6 (show j < most by omega) HR.out (S2 rfl) HN.out)
            clear HN S2
            go_wp2_with fail
            refine (S1.out _).mono ?_
            rintro e w1 ⟨rfl, hd1⟩
            have HD1 := Lib.hid hd1
            clear hd1
            go_wp2_with fail
            refine (ST.out _).mono ?_
            rintro e w2 ⟨z', rfl, hd2, HR2⟩
            have HD2 := Lib.hid hd2
            clear hd2 hne
            go_wp2_with fail
            go_roundw
            case rel => exact ⟨j + 1, z', by omega, by go_num, rfl, HR2, HD.out.trans (HDK.out.trans (HD1.out.trans HD2.out))⟩
            case measure => simp [intOf]; omega

theorem rootOf_any (n : Nat) (hn2 : 2 ≤ n) (hn6 : n ≤ 6) (z0 : Nat × Nat) (most : Nat) (hm : most ≤ 128) (w : World) (hz : SmallC z0.1 z0.2) (h : RootGood n most z0) :
    Calls Try.prog 13 #[.int .i64 n, .complex .f32 z0.1 z0.2, .int .i64 most] w (RootPost n z0 most w) := by
  have H1 := Lib.hid (fun w => isSmall_yes z0.1 z0.2 w hz)
  have H2 := Lib.hid (fun w => rootOf_walk n hn2 hn6 z0 most hm w h)
  clear hz h
  go_enter Try.func13, Try.ntmps13
  go_wp2_with fail
  refine (isDegree_yes n hn2 hn6 _).mono ?_
  rintro e w1 ⟨rfl, rfl⟩
  go_wp2_with (first | (go_at_call 48; refine (H1.out _).mono ?_; rintro e w' ⟨rfl, rfl⟩) | (go_at_call 49; refine (areTurns_yes _ (by omega) (by omega) _).mono ?_; rintro e w' ⟨rfl, rfl⟩))
  refine (H2.out _).mono ?_
  rintro e w1 ⟨hd, he⟩
  have HD := Lib.hid hd
  clear hd
  rcases he with ⟨rfl, hf⟩ | ⟨k, j, L, rfl, hf⟩
  · have F := Lib.hid hf
    clear hf
    go_wp2_with fail
    go_ret3
    exact ⟨HD.out, Or.inl ⟨rfl, F.out⟩⟩
  · have F := Lib.hid hf
    clear hf
    go_wp2_with fail
    go_ret3
    exact ⟨HD.out, Or.inr ⟨k, j, L, rfl, F.out⟩⟩
end
end Go.Proofs.Ytjhicedblobjfaa
