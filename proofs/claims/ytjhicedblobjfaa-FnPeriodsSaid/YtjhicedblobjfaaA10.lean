/- Walks: hearts, what rests, walks backwards. -/
import Derived.Test.YtjhicedblobjfaaA7
import Derived.Test.YtjhicedblobjfaaB4
import Derived.Test.YtjhicedblobjfaaE4
namespace Go.Proofs.Ytjhicedblobjfaa
open Go.RowKit

section
set_option maxHeartbeats 800000
set_option maxRecDepth 100000

theorem inHeart_any (a b : Nat) (t : Bool) (w : World) (hs : SmallC a b) (h : heartF a b = some t) :
    Calls Try.prog 20 #[.complex .f32 a b] w fun e w' => e = .returned (.bool t) ∧ w = w' := by
  obtain ⟨x, e1, h⟩ := bindS h
  obtain ⟨z, e2, h⟩ := bindS h
  obtain ⟨xx, e3, h⟩ := bindS h
  obtain ⟨yy, e4, h⟩ := bindS h
  obtain ⟨q, e5, h⟩ := bindS h
  obtain ⟨qx, e6, h⟩ := bindS h
  obtain ⟨l, e7, h⟩ := bindS h
  obtain ⟨m, e8, h⟩ := bindS h
  obtain ⟨r, e9, h⟩ := bindS h
  have H2 := Lib.hid (fun w => isSmall_yes a b w hs)
  clear hs
  cases hl : le32 l r
  · rw [hl, if_neg (by decide)] at h
    obtain ⟨zz, e10, h⟩ := bindS h
    obtain ⟨s, e11, h⟩ := bindS h
    cases hm : le32 s 1031798784
    all_goals (rw [hm] at h; cases h)
    all_goals (unfold le32 at hl hm)
    all_goals (go_enter Try.func20, Try.ntmps20)
    all_goals (go_wp2_with (go_at_call 48; refine (H2.out _).mono ?_; rintro e w' ⟨rfl, rfl⟩))
    all_goals (go_ret; exact ⟨rfl, rfl⟩)
  · rw [hl, if_pos rfl] at h
    cases h
    unfold le32 at hl
    go_enter Try.func20, Try.ntmps20
    go_wp2_with (go_at_call 48; refine (H2.out _).mono ?_; rintro e w' ⟨rfl, rfl⟩)
    go_ret
    exact ⟨rfl, rfl⟩

theorem restsOf_any (a b : Nat) (r : (Nat × Nat) × (Nat × Nat)) (w : World) (hs : SmallC a b) (h : restsF a b = some r) (h1 : Fin32 r.1.1 ∧ Fin32 r.1.2) (h2 : Fin32 r.2.1 ∧ Fin32 r.2.2) :
    Calls Try.prog 35 #[.complex .f32 a b] w fun e w' => e = .returned (.tuple #[cv r.1, cv r.2, .bool true]) ∧ w = w' := by
  obtain ⟨s, e1, h⟩ := bindS h
  obtain ⟨d0, e2, h⟩ := bindS h
  obtain ⟨d, e3, h⟩ := bindS h
  obtain ⟨p, e4, h⟩ := bindS h
  obtain ⟨x, e5, h⟩ := bindS h
  obtain ⟨q, e6, h⟩ := bindS h
  obtain ⟨y, e7, h⟩ := bindS h
  cases h
  have H0 := Lib.hid (fun w => isSmall_yes a b w hs)
  have H1 := Lib.hid (fun w => scale_any a b 1082130432 s w e1)
  have H2 := Lib.hid (fun w => subtract_any 1065353216 0 s.1 s.2 d0 w e2)
  have H3 := Lib.hid (fun w => root_any d0.1 d0.2 d w e3)
  have H4 := Lib.hid (fun w => add_any 1065353216 0 d.1 d.2 p w e4)
  have H5 := Lib.hid (fun w => scale_any p.1 p.2 1056964608 x w e5)
  have H6 := Lib.hid (fun w => subtract_any 1065353216 0 d.1 d.2 q w e6)
  have H7 := Lib.hid (fun w => scale_any q.1 q.2 1056964608 y w e7)
  have H8 := Lib.hid (fun w => ifComplex_yes x.1 x.2 w h1.1 h1.2)
  have H9 := Lib.hid (fun w => ifComplex_yes y.1 y.2 w h2.1 h2.2)
  clear hs h1 h2 e1 e2 e3 e4 e5 e6 e7
  go_enter Try.func35, Try.ntmps35
  go_wp2_with (go_at_call 48; refine (H0.out _).mono ?_; rintro e w' ⟨rfl, rfl⟩)
  refine (H1.out _).mono ?_
  rintro e w1 ⟨rfl, rfl⟩
  go_wp2_with fail
  refine (H2.out _).mono ?_
  rintro e w1 ⟨rfl, rfl⟩
  go_wp2_with fail
  refine (H3.out _).mono ?_
  rintro e w1 ⟨rfl, rfl⟩
  go_wp2_with fail
  refine (H4.out _).mono ?_
  rintro e w1 ⟨rfl, rfl⟩
  go_wp2_with fail
  refine (H5.out _).mono ?_
  rintro e w1 ⟨rfl, rfl⟩
  go_wp2_with fail
  refine (H8.out _).mono ?_
  rintro e w1 ⟨rfl, rfl⟩
  go_wp2_with fail
  refine (H6.out _).mono ?_
  rintro e w1 ⟨rfl, rfl⟩
  go_wp2_with fail
  refine (H7.out _).mono ?_
  rintro e w1 ⟨rfl, rfl⟩
  go_wp2_with fail
  refine (H9.out _).mono ?_
  rintro e w1 ⟨rfl, rfl⟩
  go_wp2_with fail
  go_ret3
  exact ⟨rfl, rfl⟩
end
end Go.Proofs.Ytjhicedblobjfaa
