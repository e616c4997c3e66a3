/- Walks: lists of finite numbers. -/
import Derived.Test.YtjhicedblobjfaaB3
namespace Go.Proofs.Ytjhicedblobjfaa
open Go.RowKit

/-- the cells of a list of finite complex numbers -/
def FinCells (w : World) (a : Option Addr) (n : Nat) : Prop := ∀ j, j < n → ∃ g x y, a = some ⟨g, 0, none⟩ ∧ w.cell? ⟨g, j, none⟩ = some (.complex .f32 x y) ∧ Fin32 x ∧ Fin32 y

section
set_option maxHeartbeats 800000
set_option maxRecDepth 100000

theorem notFinite_any (x y : Nat) (w : World) (hx : Fin32 x) (hy : Fin32 y) :
    Calls Try.prog 106 #[.complex .f32 x y] w fun e w' => e = .returned (.bool false) ∧ w = w' := by
  have H := Lib.hid (fun w => isFiniteC_yes x y w hx hy)
  clear hx hy
  go_enter Try.func106, Try.ntmps106
  go_wp2_with (go_at_call 54; refine (H.out _).mono ?_; rintro e w' ⟨rfl, rfl⟩)
  go_ret
  exact ⟨rfl, rfl⟩

theorem indexFunc_none (a : Option Addr) (n cap : Nat) (w : World) (hn : n ≤ maxLen) (h : FinCells w a n) :
    Calls Try.prog 120 #[.slice a n cap, .func (.func 106) #[] #[]] w fun e w' => e = .returned (.int .i64 (-1)) ∧ w = w' := by
  have H := Lib.hid h
  clear h
  unfold maxLen at hn
  go_enter Try.func120, Try.ntmps120
  go_wp2
  go_loop [8] (fun i => ∃ j : Nat, j ≤ n ∧ i = .int .i64 j) (fun i => n - (intOf i).toNat)
  case atStart => exact ⟨0, Nat.zero_le _, rfl⟩
  case round =>
    obtain ⟨j, hj, rfl⟩ := hrel
    by_cases hlt : j < n
    · obtain ⟨g, x, y, rfl, hc, hx, hy⟩ := H.out j hlt
      have HN := Lib.hid (fun w => notFinite_any x y w hx hy)
      clear hx hy
      go_wp2_with (go_at_call 106; refine (HN.out _).mono ?_; rintro e w' ⟨rfl, rfl⟩)
      go_round
      case rel => exact ⟨j + 1, by omega, by go_num⟩
      case measure => simp [intOf]; omega
    · go_wp2
      go_ret
      exact ⟨rfl, rfl⟩

theorem areFiniteComplex_yes (a : Option Addr) (n cap : Nat) (w : World) (hn : n ≤ maxLen) (h : FinCells w a n) :
    Calls Try.prog 68 #[.slice a n cap] w fun e w' => e = .returned (.bool true) ∧ w = w' := by
  have H := Lib.hid (indexFunc_none a n cap w hn h)
  clear h
  go_enter Try.func68, Try.ntmps68
  go_wp2_with (go_at_call 105; go_in)
  refine H.out.mono ?_
  rintro e w' ⟨rfl, rfl⟩
  go_wp2
  go_ret
  exact ⟨rfl, rfl⟩
end
end Go.Proofs.Ytjhicedblobjfaa
