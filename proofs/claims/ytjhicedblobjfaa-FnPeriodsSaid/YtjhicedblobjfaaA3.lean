/- Walks: maps and what they make of numbers. -/
import Derived.Test.YtjhicedblobjfaaA2
import Derived.Test.YtjhicedblobjfaaF2
namespace Go.Proofs.Ytjhicedblobjfaa
open Go.RowKit

theorem quiet_left {P : Program} {f : FuncId} {args : Array Value} {w : World} {n : Nat} {v : Value}
    (h : Calls P f args (w.drewN n) fun e w' => e = .returned v ∧ w.drewN n = w') : Calls P f args (w.drewN n) fun e w'' => e = .returned v ∧ ∃ m, w'' = w.drewN m :=
  h.mono fun _ _ ⟨he, hm⟩ => ⟨he, n, hm.symm⟩
theorem quiet_add_left {P : Program} {f : FuncId} {args : Array Value} {w : World} {a n : Nat} {v : Value}
    (h : Calls P f args (w.drewN (a + n)) fun e w' => e = .returned v ∧ w.drewN (a + n) = w') :
    Calls P f args (w.drewN (a + n)) fun e w'' => e = .returned v ∧ ∃ m, w'' = w.drewN (a + m) :=
  h.mono fun _ _ ⟨he, hm⟩ => ⟨he, n, hm.symm⟩
theorem below_drewN' {B : Nat} {a w : World} (h : Below B a w) (n : Nat) : Below B a (w.drewN n) := ⟨h.os, h.tape, h.output, h.size, h.block⟩

section
set_option maxHeartbeats 400000

theorem within_yes (a l h : Int) (w : World) (h1 : l ≤ a) (h2 : a ≤ h) :
    Calls Try.prog 50 #[.int .i64 a, .int .i64 l, .int .i64 h] w fun e w' => e = .returned (.bool true) ∧ w = w' := by
  go_enter Try.func50, Try.ntmps50
  go_wp2
  go_ret
  exact ⟨rfl, rfl⟩

theorem once0 (ca cb a b : Nat) (r : Nat × Nat) (w : World) (h : onceF 0 ca cb a b = some r) :
    Calls Try.prog 52 #[.agg #[.int .i64 0, .complex .f32 ca cb], .complex .f32 a b] w fun e w' => e = .returned (.complex .f32 r.1 r.2) ∧ Below w.heap.size w w' := by
  rw [onceF, if_neg (by decide), if_neg (by decide), if_neg (by decide)] at h
  obtain ⟨p, hp, h⟩ := bindS h
  go_enter Try.func52, Try.ntmps52
  go_wp2
  go_quiet ((first | (go_at_call 71; exact quiet_left (mulComplex_any _ _ _ _ _ _ hp)) | (go_at_call 70; exact quiet_left (add_any _ _ _ _ _ _ h))))
  go_wp2
  go_ret
  exact ⟨rfl, below_drewN' ((Below.refl _ _).alloc (Nat.le_refl _) _) _⟩

theorem once3 (ca cb a b : Nat) (r : Nat × Nat) (w : World) (h : onceF 3 ca cb a b = some r) :
    Calls Try.prog 52 #[.agg #[.int .i64 3, .complex .f32 ca cb], .complex .f32 a b] w fun e w' => e = .returned (.complex .f32 r.1 r.2) ∧ Below w.heap.size w w' := by
  rw [onceF, if_neg (by decide), if_neg (by decide), if_pos rfl] at h
  obtain ⟨p, hp, h⟩ := bindS h
  go_enter Try.func52, Try.ntmps52
  go_wp2_with (go_at_call 100; refine (conj_any _ _ _).mono ?_; rintro e w' ⟨rfl, rfl⟩)
  go_quiet ((first | (go_at_call 71; exact quiet_left (mulComplex_any _ _ _ _ _ _ hp)) | (go_at_call 70; exact quiet_left (add_any _ _ _ _ _ _ h))))
  go_wp2
  go_ret
  exact ⟨rfl, below_drewN' ((Below.refl _ _).alloc (Nat.le_refl _) _) _⟩

theorem once2 (ca cb a b : Nat) (r : Nat × Nat) (w : World) (h : onceF 2 ca cb a b = some r) :
    Calls Try.prog 52 #[.agg #[.int .i64 2, .complex .f32 ca cb], .complex .f32 a b] w fun e w' => e = .returned (.complex .f32 r.1 r.2) ∧ Below w.heap.size w w' := by
  rw [onceF, if_neg (by decide), if_pos rfl] at h
  obtain ⟨x, hx, h⟩ := bindS h
  obtain ⟨y, hy, h⟩ := bindS h
  obtain ⟨p, hp, h⟩ := bindS h
  go_enter Try.func52, Try.ntmps52
  go_wp2_with fail
  refine (size_any _ _ _ hx).mono ?_
  rintro e w' ⟨rfl, rfl⟩
  go_wp2_with fail
  refine (size_any _ _ _ hy).mono ?_
  rintro e w' ⟨rfl, rfl⟩
  go_wp2_with fail
  go_quiet ((first | (go_at_call 71; exact quiet_left (mulComplex_any _ _ _ _ _ _ hp)) | (go_at_call 70; exact quiet_left (add_any _ _ _ _ _ _ h))))
  go_wp2
  go_ret
  exact ⟨rfl, below_drewN' ((Below.refl _ _).alloc (Nat.le_refl _) _) _⟩

theorem once1 (ca cb a b : Nat) (r : Nat × Nat) (w : World) (h : onceF 1 ca cb a b = some r) :
    Calls Try.prog 52 #[.agg #[.int .i64 1, .complex .f32 ca cb], .complex .f32 a b] w fun e w' => e = .returned (.complex .f32 r.1 r.2) ∧ Below w.heap.size w w' := by
  rw [onceF, if_pos rfl] at h
  obtain ⟨p, hp, h⟩ := bindS h
  obtain ⟨q, hq, h⟩ := bindS h
  go_enter Try.func52, Try.ntmps52
  go_wp2
  go_quiet ((first | (go_at_call 71; exact quiet_left (mulComplex_any _ _ _ _ _ _ (by assumption))) | (go_at_call 70; exact quiet_left (add_any _ _ _ _ _ _ h))))
  go_wp2
  go_ret
  exact ⟨rfl, below_drewN' ((Below.refl _ _).alloc (Nat.le_refl _) _) _⟩

theorem once_any (k : Int) (hk0 : 0 ≤ k) (hk : k ≤ 3) (ca cb a b : Nat) (r : Nat × Nat) (w : World) (h : onceF k ca cb a b = some r) :
    Calls Try.prog 52 #[.agg #[.int .i64 k, .complex .f32 ca cb], .complex .f32 a b] w fun e w' => e = .returned (.complex .f32 r.1 r.2) ∧ Below w.heap.size w w' := by
  have : k = 0 ∨ k = 1 ∨ k = 2 ∨ k = 3 := by omega
  rcases this with rfl | rfl | rfl | rfl
  · exact once0 _ _ _ _ _ _ h
  · exact once1 _ _ _ _ _ _ h
  · exact once2 _ _ _ _ _ _ h
  · exact once3 _ _ _ _ _ _ h

theorem num1000 : NumK .f32 1148846080 1000 := num_lit .f32 1148846080 false 16384000 (-14) 1000 (by kernel_rfl) (by kernel_rfl)

theorem isSmall_yes (a b : Nat) (w : World) (h : SmallC a b) :
    Calls Try.prog 48 #[.complex .f32 a b] w fun e w' => e = .returned (.bool true) ∧ w = w' := by
  obtain ⟨x, y, ⟨ha, hb⟩, bx, bY⟩ := h
  have h61 : (1000 : Rat) ≤ 2 ^ (61 : Int) := by decide +kernel
  obtain ⟨r, u, e1, n1, p1, q1, _⟩ := sizeF_num ha (ab_mono bx h61)
  obtain ⟨s, v, e2, n2, p2, q2, _⟩ := sizeF_num hb (ab_mono bY h61)
  have l1 : le32 r 1148846080 = true := by
    rw [le32_num n1 num1000]
    have := bx.1; have := bx.2
    rcases Rat.le_total (a := 0) (b := x) with h | h
    · rw [p1 h]; simpa using bx.2
    · rw [q1 h]; simp; grind
  have l2 : le32 s 1148846080 = true := by
    rw [le32_num n2 num1000]
    have := bY.1; have := bY.2
    rcases Rat.le_total (a := 0) (b := y) with h | h
    · rw [p2 h]; simpa using bY.2
    · rw [q2 h]; simp; grind
  have := isSmall_any a b r s w e1 e2
  rw [l1, l2] at this
  exact this

theorem validMap_yes (k : Int) (hk0 : 0 ≤ k) (hk : k ≤ 3) (ca cb : Nat) (w : World) (h : SmallC ca cb) :
    Calls Try.prog 47 #[.agg #[.int .i64 k, .complex .f32 ca cb]] w fun e w' => e = .returned (.bool true) ∧ Below w.heap.size w w' := by
  have H := Lib.hid (fun w => isSmall_yes ca cb w h)
  clear h
  go_enter Try.func47, Try.ntmps47
  go_wp2_with (first | (go_at_call 50; refine (within_yes _ _ _ _ (by omega) (by omega)).mono ?_; rintro e w' ⟨rfl, rfl⟩) | (go_at_call 48; refine (H.out _).mono ?_; rintro e w' ⟨rfl, rfl⟩))
  go_ret
  exact ⟨rfl, (Below.refl _ _).alloc (Nat.le_refl _) _⟩

theorem areTurns_yes (n : Int) (h0 : 0 ≤ n) (h1 : n ≤ 128) (w : World) :
    Calls Try.prog 49 #[.int .i64 n] w fun e w' => e = .returned (.bool true) ∧ w = w' := by
  go_enter Try.func49, Try.ntmps49
  go_wp2_with (go_at_call 50; refine (within_yes _ _ _ _ (by omega) (by omega)).mono ?_; rintro e w' ⟨rfl, rfl⟩)
  go_ret
  exact ⟨rfl, rfl⟩
end
end Go.Proofs.Ytjhicedblobjfaa
