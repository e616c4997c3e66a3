/- Walks: the same numbers; roots; seeds. -/
import Derived.Test.YtjhicedblobjfaaA5
namespace Go.Proofs.Ytjhicedblobjfaa
open Go.RowKit

section
set_option maxHeartbeats 400000

theorem sameNumber_self (a : Nat) (w : World) (h : Fin32 a) :
    Calls Try.prog 81 #[.float .f32 a, .float .f32 a] w fun e w' => e = .returned (.bool true) ∧ w = w' := by
  obtain ⟨v, hv⟩ := h
  obtain ⟨x, hx, _, _⟩ := widen_num hv
  have ho : FloatKind.f32.format.order a a = some .eq := by rw [order_num hv hv]; simp [Rat.lt_irrefl]
  have h1 : (FloatKind.f32.format.order a a == some .eq) = true := by rw [ho]; rfl
  have h2 : (FloatKind.f32.format.order a a != some .eq) = false := by rw [ho]; rfl
  clear ho hv
  have S0 := fun w => signbit_any x w
  obtain ⟨s, hs⟩ : ∃ s, decide (wrap64 (x : Int) < 0) = s := ⟨_, rfl⟩
  simp only [hs] at S0
  clear hs
  cases s
  all_goals (have S := Lib.hid S0; clear S0)
  all_goals (go_enter Try.func81, Try.ntmps81)
  all_goals go_wp2_with fail
  all_goals (refine (S.out _).mono ?_; rintro e w1 ⟨rfl, rfl⟩)
  all_goals go_wp2_with fail
  all_goals (refine (S.out _).mono ?_; rintro e w1 ⟨rfl, rfl⟩)
  all_goals go_wp2_with fail
  all_goals (go_ret; exact ⟨rfl, rfl⟩)

theorem sameComplex_self (a b : Nat) (w : World) (ha : Fin32 a) (hb : Fin32 b) :
    Calls Try.prog 26 #[.complex .f32 a b, .complex .f32 a b] w fun e w' => e = .returned (.bool true) ∧ w = w' := by
  have H1 := Lib.hid (fun w => sameNumber_self a w ha)
  have H2 := Lib.hid (fun w => sameNumber_self b w hb)
  clear ha hb
  go_enter Try.func26, Try.ntmps26
  go_wp2_with fail
  refine (H1.out _).mono ?_
  rintro e w1 ⟨rfl, rfl⟩
  go_wp2_with fail
  refine (H2.out _).mono ?_
  rintro e w1 ⟨rfl, rfl⟩
  go_wp2_with fail
  go_ret
  exact ⟨rfl, rfl⟩

theorem rootNumber_any (a r : Nat) (w : World) (h : rootNumF a = some r) :
    Calls Try.prog 127 #[.float .f32 a] w fun e w' => e = .returned (.float .f32 r) ∧ w = w' := by
  obtain ⟨x, hx, h⟩ := bindS h
  obtain ⟨y, hy, h⟩ := bindS h
  have H := Lib.hid (fun w => sqrt_any x y w hy)
  clear hy
  go_enter Try.func127, Try.ntmps127
  go_wp2_with (go_at_call 55; refine (H.out _).mono ?_; rintro e w' ⟨rfl, rfl⟩)
  go_ret
  exact ⟨rfl, rfl⟩

theorem rootPart_any (a r : Nat) (w : World) (h : rootPartF a = some r) :
    Calls Try.prog 116 #[.float .f32 a] w fun e w' => e = .returned (.float .f32 r) ∧ w = w' := by
  obtain ⟨x, hx, h⟩ := bindS h
  cases ho : (FloatKind.f32.format.order x 0 == some .lt)
  · rw [ho, if_neg (by decide)] at h
    have H := Lib.hid (fun w => rootNumber_any x r w h)
    clear h
    go_enter Try.func116, Try.ntmps116
    go_wp2_with (go_at_call 127; refine (H.out _).mono ?_; rintro e w' ⟨rfl, rfl⟩)
    go_ret
    exact ⟨rfl, rfl⟩
  · rw [ho, if_pos rfl] at h
    have H := Lib.hid (fun w => rootNumber_any 0 r w h)
    clear h
    go_enter Try.func116, Try.ntmps116
    go_wp2_with (go_at_call 127; refine (H.out _).mono ?_; rintro e w' ⟨rfl, rfl⟩)
    go_ret
    exact ⟨rfl, rfl⟩

theorem root_any (a b : Nat) (r : Nat × Nat) (w : World) (h : rootF a b = some r) :
    Calls Try.prog 89 #[.complex .f32 a b] w fun e w' => e = .returned (.complex .f32 r.1 r.2) ∧ w = w' := by
  obtain ⟨l, hl, h⟩ := bindS h
  obtain ⟨s, hs, h⟩ := bindS h
  obtain ⟨u, hu, h⟩ := bindS h
  obtain ⟨d, hd, h⟩ := bindS h
  obtain ⟨v, hv, h⟩ := bindS h
  have H1 := Lib.hid (fun w => longOf_any a b l w hl)
  have H2 := Lib.hid (fun w => rootPart_any s u w hu)
  have H3 := Lib.hid (fun w => rootPart_any d v w hv)
  clear hl hu hv
  cases ho : (FloatKind.f32.format.order b 0 == some .lt)
  all_goals (rw [ho] at h; cases h)
  all_goals (go_enter Try.func89, Try.ntmps89)
  all_goals go_wp2_with fail
  all_goals (refine (H1.out _).mono ?_; rintro e w1 ⟨rfl, rfl⟩)
  all_goals go_wp2_with fail
  all_goals (refine (H2.out _).mono ?_; rintro e w1 ⟨rfl, rfl⟩)
  all_goals go_wp2_with fail
  all_goals (refine (H3.out _).mono ?_; rintro e w1 ⟨rfl, rfl⟩)
  all_goals go_wp2_with fail
  all_goals (go_ret; exact ⟨rfl, rfl⟩)

theorem isSeed_yes (n : Int) (h0 : 0 ≤ n) (h1 : n ≤ 2147483647) (w : World) :
    Calls Try.prog 90 #[.int .i64 n] w fun e w' => e = .returned (.bool true) ∧ w = w' := by
  go_enter Try.func90, Try.ntmps90
  go_wp2_with (go_at_call 50; refine (within_yes _ _ _ _ (by omega) (by omega)).mono ?_; rintro e w' ⟨rfl, rfl⟩)
  go_ret
  exact ⟨rfl, rfl⟩

theorem nextSeed_any (n : Int) (h0 : 0 ≤ n) (h1 : n ≤ 2147483647) (w : World) :
    Calls Try.prog 91 #[.int .i64 n] w fun e w' => e = .returned (.int .i64 ((1103515245 * n + 12345) % 2147483648)) ∧ w = w' := by
  go_enter Try.func91, Try.ntmps91
  go_wp2
  go_ret
  exact ⟨rfl, rfl⟩
end
end Go.Proofs.Ytjhicedblobjfaa
