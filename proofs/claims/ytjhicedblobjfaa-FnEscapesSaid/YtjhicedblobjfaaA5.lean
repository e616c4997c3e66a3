/- Walks: escapes, finite numbers, the same numbers, MapOnce. -/
import Derived.Test.YtjhicedblobjfaaA4
namespace Go.Proofs.Ytjhicedblobjfaa
open Go.RowKit

section
set_option maxHeartbeats 400000

theorem escapeOf_any (k : Int) (hk0 : 0 ≤ k) (hk : k ≤ 3) (ca cb a b most : Nat) (hm : most ≤ 128) (R : Nat × Nat × Nat) (w : World) (hc : SmallC ca cb) (hz : SmallC a b) (h : escF k ca cb most 0 a b = some R) :
    Calls Try.prog 16 #[.agg #[.int .i64 k, .complex .f32 ca cb], .complex .f32 a b, .int .i64 most] w fun e w' => e = .returned (.tuple #[.int .i64 R.1, .bool true]) ∧ Below w.heap.size w w' := by
  have H1 := Lib.hid (fun w => areEscape_yes k hk0 hk ca cb a b most (by omega) (by omega) w hc hz)
  have H2 := Lib.hid (fun w => escape_any k hk0 hk ca cb a b most hm R w h)
  clear hc hz h
  go_enter Try.func16, Try.ntmps16
  go_wp2_with fail
  refine (H1.out _).mono ?_
  rintro e w1 ⟨rfl, hb⟩
  obtain ⟨hc, hf⟩ := bcell hb
  have hz : w.heap.size + 1 ≤ w1.heap.size := by have := hb.size; simp at this; omega
  go_wp2_with fail
  refine (H2.out _).mono ?_
  rintro e w2 ⟨rfl, hb2⟩
  clear hc hf
  go_wp2_with fail
  go_ret2
  exact ⟨rfl, (((Below.refl _ _).alloc (Nat.le_refl _) _).trans (hb.mono (by simp))).trans (hb2.mono (by omega))⟩

theorem rep0 (k : FloatKind) : Rep k.format 0 := rep_nat k (n := 0) (by cases k <;> decide)
theorem num0 : NumK .f32 0 0 := num_lit .f32 0 false 0 (-149) 0 (by kernel_rfl) (by kernel_rfl)

theorem isFinite_yes (a : Nat) (w : World) (h : Fin32 a) :
    Calls Try.prog 51 #[.float .f32 a] w fun e w' => e = .returned (.bool true) ∧ w = w' := by
  obtain ⟨v, hv⟩ := h
  obtain ⟨r, z, h1, h2, h3⟩ := sub_num hv hv (by rw [Rat.sub_self]; exact p2_pos _) (by rw [Rat.sub_self]; have := p2_pos (top FloatKind.f32.format); grind)
  rw [Rat.sub_self] at h3
  have hz := near_exact h3 (rep0 .f32)
  subst hz
  have ho : (FloatKind.f32.format.order r 0 == some .eq) = true := by
    rw [order_num h2 num0]; simp [Rat.lt_irrefl]
  clear h2 h3 hv
  go_enter Try.func51, Try.ntmps51
  go_wp2
  go_ret
  exact ⟨rfl, rfl⟩

theorem isFiniteC_yes (a b : Nat) (w : World) (ha : Fin32 a) (hb : Fin32 b) :
    Calls Try.prog 54 #[.complex .f32 a b] w fun e w' => e = .returned (.bool true) ∧ w = w' := by
  have H1 := Lib.hid (fun w => isFinite_yes a w ha)
  have H2 := Lib.hid (fun w => isFinite_yes b w hb)
  clear ha hb
  go_enter Try.func54, Try.ntmps54
  go_wp2_with fail
  refine (H1.out _).mono ?_
  rintro e w1 ⟨rfl, rfl⟩
  go_wp2_with fail
  refine (H2.out _).mono ?_
  rintro e w1 ⟨rfl, rfl⟩
  go_wp2_with fail
  go_ret
  exact ⟨rfl, rfl⟩

theorem ifComplex_yes (a b : Nat) (w : World) (ha : Fin32 a) (hb : Fin32 b) :
    Calls Try.prog 59 #[.complex .f32 a b] w fun e w' => e = .returned (.tuple #[.complex .f32 a b, .bool true]) ∧ w = w' := by
  have H1 := Lib.hid (fun w => isFiniteC_yes a b w ha hb)
  clear ha hb
  go_enter Try.func59, Try.ntmps59
  go_wp2_with (go_at_call 54; refine (H1.out _).mono ?_; rintro e w' ⟨rfl, rfl⟩)
  go_ret2
  exact ⟨rfl, rfl⟩

theorem ifNumber_yes (a : Nat) (w : World) (ha : Fin32 a) :
    Calls Try.prog 73 #[.float .f32 a] w fun e w' => e = .returned (.tuple #[.float .f32 a, .bool true]) ∧ w = w' := by
  have H1 := Lib.hid (fun w => isFinite_yes a w ha)
  clear ha
  go_enter Try.func73, Try.ntmps73
  go_wp2_with (go_at_call 51; refine (H1.out _).mono ?_; rintro e w' ⟨rfl, rfl⟩)
  go_ret2
  exact ⟨rfl, rfl⟩

theorem mapOnce_any (k : Int) (hk0 : 0 ≤ k) (hk : k ≤ 3) (ca cb a b : Nat) (r : Nat × Nat) (w : World) (hc : SmallC ca cb) (hz : SmallC a b) (h : onceF k ca cb a b = some r) (h1 : Fin32 r.1) (h2 : Fin32 r.2) :
    Calls Try.prog 34 #[.agg #[.int .i64 k, .complex .f32 ca cb], .complex .f32 a b] w fun e w' => e = .returned (.tuple #[.complex .f32 r.1 r.2, .bool true]) ∧ Below w.heap.size w w' := by
  have H1 := Lib.hid (fun w => validMap_yes k hk0 hk ca cb w hc)
  have H2 := Lib.hid (fun w => isSmall_yes a b w hz)
  have H3 := Lib.hid (fun w => once_any k hk0 hk ca cb a b r w h)
  have H4 := Lib.hid (fun w => ifComplex_yes r.1 r.2 w h1 h2)
  clear hc hz h h1 h2
  go_enter Try.func34, Try.ntmps34
  go_wp2_with fail
  refine (H1.out _).mono ?_
  rintro e w1 ⟨rfl, hb⟩
  obtain ⟨hc, hf⟩ := bcell hb
  have hz : w.heap.size + 1 ≤ w1.heap.size := by have := hb.size; simp at this; omega
  go_wp2_with (go_at_call 48; refine (H2.out _).mono ?_; rintro e w' ⟨rfl, rfl⟩)
  refine (H3.out _).mono ?_
  rintro e w2 ⟨rfl, hb2⟩
  clear hc hf
  go_wp2_with (go_at_call 59; refine (H4.out _).mono ?_; rintro e w' ⟨rfl, rfl⟩)
  go_ret2
  exact ⟨rfl, (((Below.refl _ _).alloc (Nat.le_refl _) _).trans (hb.mono (by simp))).trans (hb2.mono (by omega))⟩

theorem signbit_any (x : Nat) (w : World) :
    Calls Try.prog 115 #[.float .f64 x] w fun e w' => e = .returned (.bool (decide (wrap64 (x : Int) < 0))) ∧ w = w' := by
  have h1 := fun w => run_f64bits x w
  go_enter Try.func115, Try.ntmps115
  go_wp2
  go_ret
  exact ⟨rfl, rfl⟩
end
end Go.Proofs.Ytjhicedblobjfaa
