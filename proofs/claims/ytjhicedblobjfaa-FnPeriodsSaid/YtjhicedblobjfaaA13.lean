/- Walks: quotients, steps to roots. -/
import Derived.Test.YtjhicedblobjfaaMK
import Derived.Test.YtjhicedblobjfaaA10
import Derived.Test.YtjhicedblobjfaaG2
namespace Go.Proofs.Ytjhicedblobjfaa
open Go.RowKit Ieee

section
set_option maxHeartbeats 0
set_option maxRecDepth 100000

theorem quotientOf_any (a b c d : Nat) (r : Nat × Nat) (w : World) (h : quotF a b c d = some r) :
    Calls Try.prog 87 #[.complex .f32 a b, .complex .f32 c d] w fun e w' => e = .returned (.complex .f32 r.1 r.2) ∧ w = w' := by
  obtain ⟨x, hx, h⟩ := bindS h
  obtain ⟨y, hy, h⟩ := bindS h
  obtain ⟨z, hz, h⟩ := bindS h
  obtain ⟨t, ht, h⟩ := bindS h
  obtain ⟨u, hu, h⟩ := bindS h
  obtain ⟨p, hp, h⟩ := bindS h
  obtain ⟨q, hq, h⟩ := bindS h
  obtain ⟨r1, hr, h⟩ := bindS h
  obtain ⟨s, hs, h⟩ := bindS h
  obtain ⟨i, hi, h⟩ := bindS h
  cases h
  have K1 := Lib.hid (fun w => parts_any a b x y w hx hy)
  have K2 := Lib.hid (fun w => parts_any c d z t w hz ht)
  have K3 := Lib.hid (fun w => times_any x y z (Op.negFloat .f64 t) u w hu)
  have K4 := Lib.hid (fun w => power_any c d p w hp)
  clear hx hy hz ht hu hp
  go_enter Try.func87, Try.ntmps87
  go_wp2_with fail
  refine (K1.out _).mono ?_
  rintro e w' ⟨rfl, rfl⟩
  go_wp2_with fail
  refine (K2.out _).mono ?_
  rintro e w' ⟨rfl, rfl⟩
  go_wp2_with fail
  refine (K3.out _).mono ?_
  rintro e w' ⟨rfl, rfl⟩
  go_wp2_with fail
  refine (K4.out _).mono ?_
  rintro e w' ⟨rfl, rfl⟩
  go_wp2_with fail
  go_ret
  exact ⟨rfl, rfl⟩

theorem step_any (n : Nat) (hn2 : 2 ≤ n) (hn6 : n ≤ 6) (a b : Nat) (r : Nat × Nat) (w : World) (h : stepF n a b = some r) :
    Calls Try.prog 60 #[.int .i64 n, .complex .f32 a b] w fun e w' => e = .returned (.complex .f32 r.1 r.2) ∧ w = w' := by
  obtain ⟨P, hP, h⟩ := bindS h
  obtain ⟨m, hm, h⟩ := bindS h
  obtain ⟨s, hs, h⟩ := bindS h
  obtain ⟨t, ht, h⟩ := bindS h
  obtain ⟨q, hq, h⟩ := bindS h
  have HP := Lib.hid hP
  have K1 := Lib.hid (fun w => mulComplex_any P.1 P.2 a b m w hm)
  have K2 := Lib.hid (fun w => scale_any m.1 m.2 _ s w hs)
  have K3 := Lib.hid (fun w => add_any s.1 s.2 1065353216 0 t w ht)
  have K4 := Lib.hid (fun w => scale_any P.1 P.2 _ q w hq)
  have K5 := Lib.hid (fun w => quotientOf_any t.1 t.2 q.1 q.2 r w h)
  clear h hP hm hs ht hq
  go_enter Try.func60, Try.ntmps60
  go_wp2
  go_loop [5, 9] (fun pp i => ∃ (j : Nat) (y : Nat × Nat), j ≤ n - 2 ∧ i = .int .i64 j ∧ pp = .complex .f32 y.1 y.2 ∧ Hid (itF (n - 2 - j) y a b = some P)) (fun _ i => n - 2 - (intOf i).toNat)
  case atStart => exact ⟨0, (a, b), by omega, rfl, rfl, HP⟩
  case round =>
    obtain ⟨j, y, hj, rfl, rfl, HE⟩ := hrel
    by_cases hlt : j < n - 2
    · obtain ⟨f, hf⟩ : ∃ f, n - 2 - j = f + 1 := ⟨n - 2 - j - 1, by omega⟩
      have hE := HE.out
      rw [hf] at hE
      obtain ⟨y', e1, hE2⟩ := bindS hE
      have hf' : f = n - 2 - (j + 1) := by omega
      rw [hf'] at hE2
      have HE2 := Lib.hid hE2
      have K := Lib.hid (fun w => mulComplex_any y.1 y.2 a b y' w e1)
      clear hE hE2 e1 hf hf'
      go_wp2_with fail
      refine (K.out _).mono ?_
      rintro e w1 ⟨rfl, rfl⟩
      go_wp2_with fail
      go_round
      case rel => exact ⟨j + 1, y', by omega, by go_num, rfl, HE2⟩
      case measure => simp [intOf]; omega
    · have hj' : n - 2 - j = 0 := by omega
      have hE := HE.out
      rw [hj'] at hE
      have hE' : some y = some P := hE
      simp only [Option.some.injEq] at hE'
      subst hE'
      clear hE hj'
      go_wp2_with fail
      refine (K1.out _).mono ?_
      rintro e w1 ⟨rfl, rfl⟩
      go_wp2_with fail
      refine (K2.out _).mono ?_
      rintro e w1 ⟨rfl, rfl⟩
      go_wp2_with fail
      refine (K3.out _).mono ?_
      rintro e w1 ⟨rfl, rfl⟩
      go_wp2_with fail
      refine (K4.out _).mono ?_
      rintro e w1 ⟨rfl, rfl⟩
      go_wp2_with fail
      refine (K5.out _).mono ?_
      rintro e w1 ⟨rfl, rfl⟩
      go_wp2_with fail
      go_ret
      exact ⟨rfl, rfl⟩

theorem isDegree_yes (n : Nat) (hn2 : 2 ≤ n) (hn6 : n ≤ 6) (w : World) :
    Calls Try.prog 57 #[.int .i64 n] w fun e w' => e = .returned (.bool true) ∧ w = w' := by
  go_enter Try.func57, Try.ntmps57
  go_wp2_with (go_at_call 50; refine (within_yes _ _ _ _ (by omega) (by omega)).mono ?_; rintro e w' ⟨rfl, rfl⟩)
  go_ret
  exact ⟨rfl, rfl⟩

theorem rootStep_any (n : Nat) (hn2 : 2 ≤ n) (hn6 : n ≤ 6) (a b : Nat) (r : Nat × Nat) (w : World) (hz : SmallC a b) (h : stepF n a b = some r) (hr : Fin32 r.1 ∧ Fin32 r.2) :
    Calls Try.prog 14 #[.int .i64 n, .complex .f32 a b] w fun e w' => e = .returned (.tuple #[.complex .f32 r.1 r.2, .bool true]) ∧ w = w' := by
  have H1 := Lib.hid (fun w => isSmall_yes a b w hz)
  have H2 := Lib.hid (fun w => step_any n hn2 hn6 a b r w h)
  have H3 := Lib.hid (fun w => ifComplex_yes r.1 r.2 w hr.1 hr.2)
  clear hz h hr
  go_enter Try.func14, Try.ntmps14
  go_wp2_with fail
  refine (isDegree_yes n hn2 hn6 _).mono ?_
  rintro e w1 ⟨rfl, rfl⟩
  go_wp2_with fail
  refine (H1.out _).mono ?_
  rintro e w1 ⟨rfl, rfl⟩
  go_wp2_with fail
  refine (H2.out _).mono ?_
  rintro e w1 ⟨rfl, rfl⟩
  go_wp2_with fail
  refine (H3.out _).mono ?_
  rintro e w1 ⟨rfl, rfl⟩
  go_wp2_with fail
  go_ret2
  exact ⟨rfl, rfl⟩
end
end Go.Proofs.Ytjhicedblobjfaa
