/- Small number functions: what each computes, as a partial function of the bits, and that the call gives it. -/
import Derived.Test.YtjhicedblobjfaaA1
import Derived.Test.YtjhicedblobjfaaF1
namespace Go.Proofs.Ytjhicedblobjfaa
open Go.RowKit

section
set_option maxHeartbeats 400000

theorem parts_any (a b x y : Nat) (w : World) (hx : widen a = some x) (hy : widen b = some y) :
    Calls Try.prog 102 #[.complex .f32 a b] w fun e w' => e = .returned (.tuple #[.float .f64 x, .float .f64 y]) ∧ w = w' := by
  go_enter Try.func102, Try.ntmps102
  go_wp2
  go_ret2
  exact ⟨rfl, rfl⟩

theorem power_any (a b r : Nat) (w : World) (h : powF a b = some r) :
    Calls Try.prog 56 #[.complex .f32 a b] w fun e w' => e = .returned (.float .f64 r) ∧ w = w' := by
  obtain ⟨x, hx, h⟩ := bindS h
  obtain ⟨y, hy, h⟩ := bindS h
  obtain ⟨p, hp, h⟩ := bindS h
  obtain ⟨q, hq, h⟩ := bindS h
  go_enter Try.func56, Try.ntmps56
  go_wp2_with (go_at_call 102; refine (parts_any _ _ _ _ _ hx hy).mono ?_; rintro e w' ⟨rfl, rfl⟩)
  go_ret
  exact ⟨rfl, rfl⟩

theorem powerOf_any (a b r : Nat) (w : World) (h : powerF a b = some r) :
    Calls Try.prog 33 #[.complex .f32 a b] w fun e w' => e = .returned (.float .f32 r) ∧ w = w' := by
  obtain ⟨x, hx, h⟩ := bindS h
  go_enter Try.func33, Try.ntmps33
  go_wp2_with (go_at_call 56; refine (power_any _ _ _ _ hx).mono ?_; rintro e w' ⟨rfl, rfl⟩)
  go_ret
  exact ⟨rfl, rfl⟩

theorem sqrt_any (x r : Nat) (w : World) (h : fsqrt x = some r) :
    Calls Try.prog 55 #[.float .f64 x] w fun e w' => e = .returned (.float .f64 r) ∧ w = w' := by
  have hr := fun w => run_fsqrt x r h w
  clear h
  go_enter Try.func55, Try.ntmps55
  go_wp2
  go_ret
  exact ⟨rfl, rfl⟩

theorem longOf_any (a b r : Nat) (w : World) (h : longF a b = some r) :
    Calls Try.prog 12 #[.complex .f32 a b] w fun e w' => e = .returned (.float .f32 r) ∧ w = w' := by
  obtain ⟨x, hx, h⟩ := bindS h
  obtain ⟨y, hy, h⟩ := bindS h
  go_enter Try.func12, Try.ntmps12
  go_wp2_with (first | (go_at_call 56; refine (power_any _ _ _ _ hx).mono ?_; rintro e w' ⟨rfl, rfl⟩) | (go_at_call 55; refine (sqrt_any _ _ _ hy).mono ?_; rintro e w' ⟨rfl, rfl⟩))
  go_ret
  exact ⟨rfl, rfl⟩

theorem times_any (x y z t : Nat) (r : Nat × Nat) (w : World) (h : timesF x y z t = some r) :
    Calls Try.prog 107 #[.float .f64 x, .float .f64 y, .float .f64 z, .float .f64 t] w fun e w' => e = .returned (.tuple #[.float .f64 r.1, .float .f64 r.2]) ∧ w = w' := by
  obtain ⟨u, hu, h⟩ := bindS h
  obtain ⟨v, hv, h⟩ := bindS h
  cases h
  obtain ⟨p, hp, hu⟩ := bindS hu
  obtain ⟨q, hq, hu⟩ := bindS hu
  obtain ⟨s, hs, hv⟩ := bindS hv
  obtain ⟨m, hm, hv⟩ := bindS hv
  go_enter Try.func107, Try.ntmps107
  go_wp2
  go_ret2
  exact ⟨rfl, rfl⟩

theorem mulComplex_any (a b c d : Nat) (r : Nat × Nat) (w : World) (h : mulF a b c d = some r) :
    Calls Try.prog 71 #[.complex .f32 a b, .complex .f32 c d] w fun e w' => e = .returned (.complex .f32 r.1 r.2) ∧ w = w' := by
  obtain ⟨x, hx, h⟩ := bindS h
  obtain ⟨y, hy, h⟩ := bindS h
  obtain ⟨z, hz, h⟩ := bindS h
  obtain ⟨t, ht, h⟩ := bindS h
  obtain ⟨u, hu, h⟩ := bindS h
  obtain ⟨s, hs, h⟩ := bindS h
  obtain ⟨v, hv, h⟩ := bindS h
  cases h
  go_enter Try.func71, Try.ntmps71
  go_wp2_with fail
  refine (parts_any _ _ _ _ _ hx hy).mono ?_
  rintro e w' ⟨rfl, rfl⟩
  go_wp2_with fail
  refine (parts_any _ _ _ _ _ hz ht).mono ?_
  rintro e w' ⟨rfl, rfl⟩
  go_wp2_with (go_at_call 107; refine (times_any _ _ _ _ _ _ hu).mono ?_; rintro e w' ⟨rfl, rfl⟩)
  go_ret
  exact ⟨rfl, rfl⟩

theorem scale_any (a b c : Nat) (r : Nat × Nat) (w : World) (h : scaleF a b c = some r) :
    Calls Try.prog 84 #[.complex .f32 a b, .float .f32 c] w fun e w' => e = .returned (.complex .f32 r.1 r.2) ∧ w = w' := by
  obtain ⟨x, hx, h⟩ := bindS h
  obtain ⟨y, hy, h⟩ := bindS h
  cases h
  go_enter Try.func84, Try.ntmps84
  go_wp2
  go_ret
  exact ⟨rfl, rfl⟩

theorem conj_any (a b : Nat) (w : World) :
    Calls Try.prog 100 #[.complex .f32 a b] w fun e w' => e = .returned (.complex .f32 a (Op.negFloat .f32 b)) ∧ w = w' := by
  go_enter Try.func100, Try.ntmps100
  go_wp2
  go_ret
  exact ⟨rfl, rfl⟩

theorem opposite_any (a b : Nat) (w : World) :
    Calls Try.prog 92 #[.complex .f32 a b] w fun e w' => e = .returned (.complex .f32 (Op.negFloat .f32 a) (Op.negFloat .f32 b)) ∧ w = w' := by
  go_enter Try.func92, Try.ntmps92
  go_wp2
  go_ret
  exact ⟨rfl, rfl⟩

theorem add_any (a b c d : Nat) (r : Nat × Nat) (w : World) (h : addF a b c d = some r) :
    Calls Try.prog 70 #[.complex .f32 a b, .complex .f32 c d] w fun e w' => e = .returned (.complex .f32 r.1 r.2) ∧ w = w' := by
  obtain ⟨x, hx, h⟩ := bindS h
  obtain ⟨y, hy, h⟩ := bindS h
  cases h
  go_enter Try.func70, Try.ntmps70
  go_wp2
  go_ret
  exact ⟨rfl, rfl⟩

theorem subtract_any (a b c d : Nat) (r : Nat × Nat) (w : World) (h : subF a b c d = some r) :
    Calls Try.prog 53 #[.complex .f32 a b, .complex .f32 c d] w fun e w' => e = .returned (.complex .f32 r.1 r.2) ∧ w = w' := by
  obtain ⟨x, hx, h⟩ := bindS h
  obtain ⟨y, hy, h⟩ := bindS h
  cases h
  go_enter Try.func53, Try.ntmps53
  go_wp2
  go_ret
  exact ⟨rfl, rfl⟩

set_option maxRecDepth 100000 in
theorem abs_any (b : Nat) (hb : b < 2 ^ 64) (w : World) :
    Calls Try.prog 63 #[.float .f64 b] w fun e w' => e = .returned (.float .f64 (absBits b)) ∧ w = w' := by
  have h1 := fun w => run_f64bits b w
  have h2 := bits_andNot b hb
  have h3 := fun w => run_f64frombits (absBits b) w
  clear hb
  go_enter Try.func63, Try.ntmps63
  go_wp2
  go_ret
  exact ⟨rfl, rfl⟩

theorem widen_lt {a x : Nat} (h : widen a = some x) : x < 2 ^ 64 := by
  unfold widen floatToFloatBits at h
  rw [if_neg (by decide)] at h
  split at h
  · cases h
  · cases h; exact FloatKind.f64.format.write_lt _
  · split at h
    · cases h
    · cases h; exact FloatKind.f64.format.write_lt _

theorem size_any (a r : Nat) (w : World) (h : sizeF a = some r) :
    Calls Try.prog 99 #[.float .f32 a] w fun e w' => e = .returned (.float .f32 r) ∧ w = w' := by
  obtain ⟨x, hx, h⟩ := bindS h
  have hlt := widen_lt hx
  go_enter Try.func99, Try.ntmps99
  go_wp2_with (go_at_call 63; refine (abs_any _ (by assumption) _).mono ?_; rintro e w' ⟨rfl, rfl⟩)
  go_ret
  exact ⟨rfl, rfl⟩

theorem isSmall_any (a b x y : Nat) (w : World) (hx : sizeF a = some x) (hy : sizeF b = some y) :
    Calls Try.prog 48 #[.complex .f32 a b] w fun e w' => e = .returned (.bool (le32 x 1148846080 && le32 y 1148846080)) ∧ w = w' := by
  have ax := fun w => size_any a x w hx
  have ay := fun w => size_any b y w hy
  have HX := Lib.hid ax
  have HY := Lib.hid ay
  clear ax ay hx hy
  cases h1 : le32 x 1148846080
  all_goals (cases h2 : le32 y 1148846080)
  all_goals (unfold le32 at h1 h2)
  all_goals (go_enter Try.func48, Try.ntmps48)
  all_goals go_wp2_with fail
  all_goals (refine (HX.out _).mono ?_; rintro e w' ⟨rfl, rfl⟩)
  all_goals go_wp2_with fail
  all_goals (first | (refine (HY.out _).mono ?_; rintro e w' ⟨rfl, rfl⟩; go_wp2_with fail) | skip)
  all_goals (go_ret; exact ⟨rfl, rfl⟩)
end
end Go.Proofs.Ytjhicedblobjfaa
