/- Walks: how far a number is from the set. -/
import Derived.Test.YtjhicedblobjfaaH1
import Derived.Test.YtjhicedblobjfaaA9
import Derived.Test.YtjhicedblobjfaaA10
namespace Go.Proofs.Ytjhicedblobjfaa
open Go.RowKit Ieee

theorem bordF_stop {ca cb f : Nat} {z d : Nat × Nat} {p : Nat} {R} (h : bordF ca cb (f + 1) z d = some R) (hp : powerF z.1 z.2 = some p) (ho : outB p = true) : R = (z, d) := by
  simp [bordF, hp, ho] at h; exact h.symm
theorem bordF_go {ca cb f : Nat} {z d : Nat × Nat} {p : Nat} {R} (h : bordF ca cb (f + 1) z d = some R) (hp : powerF z.1 z.2 = some p) (ho : outB p = false) :
    ∃ s m d' q z', addF z.1 z.2 z.1 z.2 = some s ∧ mulF s.1 s.2 d.1 d.2 = some m ∧ addF m.1 m.2 1065353216 0 = some d' ∧ mulF z.1 z.2 z.1 z.2 = some q ∧ addF q.1 q.2 ca cb = some z' ∧ bordF ca cb f z' d' = some R := by
  simp only [bordF, hp, Option.bind_eq_bind, Option.bind_some, ho, Bool.false_eq_true, if_false] at h
  obtain ⟨s, e1, h⟩ := bindS h
  obtain ⟨m, e2, h⟩ := bindS h
  obtain ⟨d', e3, h⟩ := bindS h
  obtain ⟨q, e4, h⟩ := bindS h
  obtain ⟨z', e5, h⟩ := bindS h
  exact ⟨s, m, d', q, z', e1, e2, e3, e4, e5, h⟩
theorem bordF_pow {ca cb f : Nat} {z d : Nat × Nat} {R} (h : bordF ca cb (f + 1) z d = some R) : ∃ p, powerF z.1 z.2 = some p := by
  obtain ⟨p, hp, _⟩ := bindS h; exact ⟨p, hp⟩

/-- what is told of a border: zero where the number is in -/
def BordPost (z : Nat × Nat) (w : World) (e : Ending) (w' : World) : Prop :=
  ∃ r rv, e = .returned (.tuple #[.float .f32 r, .bool true]) ∧ NumK .f32 r rv ∧ 0 ≤ rv ∧ (∀ p, powerF z.1 z.2 = some p → outB p = false → rv = 0) ∧ w = w'

section
set_option maxHeartbeats 0
set_option maxRecDepth 100000

theorem borderOf_any (ca cb : Nat) (zf df : Nat × Nat) (w : World) (hc : SmallC ca cb) (h : bordF ca cb 40 (0, 0) (0, 0) = some (zf, df)) (hg : BordGood zf df) :
    Calls Try.prog 19 #[.complex .f32 ca cb, .int .i64 40] w (BordPost zf w) := by
  have H0 := Lib.hid (fun w => isSmall_yes ca cb w hc)
  have HB := Lib.hid h
  have HG := Lib.hid hg
  clear hc h hg
  go_enter Try.func19, Try.ntmps19
  go_wp2_with (first | (go_at_call 48; refine (H0.out _).mono ?_; rintro e w' ⟨rfl, rfl⟩) | (go_at_call 50; refine (within_yes _ _ _ _ (by omega) (by omega)).mono ?_; rintro e w' ⟨rfl, rfl⟩))
  go_loop [6, 7, 18] (fun zz dd i => ∃ (j : Nat) (z d : Nat × Nat), j ≤ 40 ∧ i = .int .i64 j ∧ zz = .complex .f32 z.1 z.2 ∧ dd = .complex .f32 d.1 d.2 ∧ Hid (bordF ca cb (40 - j) z d = some (zf, df))) (fun _ _ i => 40 - (intOf i).toNat)
  case atStart => exact ⟨0, (0, 0), (0, 0), by omega, rfl, rfl, rfl, HB⟩
  case round =>
    obtain ⟨j, z, d, hj, rfl, rfl, rfl, HE⟩ := hrel
    by_cases hlt : j < 40
    · obtain ⟨f, hf⟩ : ∃ f, 40 - j = f + 1 := ⟨40 - j - 1, by omega⟩
      have hE := HE.out
      rw [hf] at hE
      obtain ⟨p, hp⟩ := bordF_pow hE
      have HO := Lib.hid (fun w => isOut_any z.1 z.2 p w hp)
      cases ho : outB p
      · obtain ⟨s, m, d', q, z', e1, e2, e3, e4, e5, hE2⟩ := bordF_go hE hp ho
        have hf' : f = 40 - (j + 1) := by omega
        rw [hf'] at hE2
        have HE2 := Lib.hid hE2
        have HO' : ∀ w, Calls Try.prog 69 #[.complex .f32 z.1 z.2] w fun e w' => e = .returned (.bool false) ∧ w = w' := fun w => by rw [← ho]; exact HO.out w
        have HO2 := Lib.hid HO'
        have K1 := Lib.hid (fun w => add_any z.1 z.2 z.1 z.2 s w e1)
        have K2 := Lib.hid (fun w => mulComplex_any s.1 s.2 d.1 d.2 m w e2)
        have K3 := Lib.hid (fun w => add_any m.1 m.2 1065353216 0 d' w e3)
        have K4 := Lib.hid (fun w => mulComplex_any z.1 z.2 z.1 z.2 q w e4)
        have K5 := Lib.hid (fun w => add_any q.1 q.2 ca cb z' w e5)
        clear hE hE2 hp hf hf' ho HO HO' e1 e2 e3 e4 e5
        go_wp2_with fail
        refine (HO2.out _).mono ?_
        rintro e w1 ⟨rfl, rfl⟩
        go_wp2_with fail
        refine (K1.out _).mono ?_
        rintro e w1 ⟨rfl, rfl⟩
        go_wp2_with fail
        refine (K2.out _).mono ?_
        rintro e w1 ⟨rfl, rfl⟩
        go_wp2_with fail
        refine (K3.out _).mono ?_
        rintro e w1 ⟨rfl, rfl⟩
        go_wp2_with fail
        refine (K4.out _).mono ?_
        rintro e w1 ⟨rfl, rfl⟩
        go_wp2_with fail
        refine (K5.out _).mono ?_
        rintro e w1 ⟨rfl, rfl⟩
        go_wp2_with fail
        go_round
        case rel => exact ⟨j + 1, z', d', by omega, by go_num, rfl, rfl, HE2⟩
        case measure => simp [intOf]; omega
      · have hR := bordF_stop hE hp ho
        rw [Prod.mk.injEq] at hR
        obtain ⟨hz1, hd1⟩ := hR
        replace hz1 := hz1.symm
        replace hd1 := hd1.symm
        subst hz1
        subst hd1
        have hG := HG.out
        clear hE hf
        rcases hG with ⟨p2, ep, ho2⟩ | ⟨p2, l, v, mm, mv, ep, ho2, el, nl, v1, v2, em, nm, m1⟩
        · exfalso; rw [hp] at ep; cases ep; rw [ho] at ho2; cases ho2
        · clear ep ho2
          have HO' : ∀ w, Calls Try.prog 69 #[.complex .f32 z.1 z.2] w fun e w' => e = .returned (.bool true) ∧ w = w' := fun w => by rw [← ho]; exact HO.out w
          have HO2 := Lib.hid HO'
          have KL := Lib.hid (fun w => longOf_any z.1 z.2 l w el)
          have KD := Lib.hid (fun w => longOf_any d.1 d.2 mm w em)
          have v0 : (1 / 1000 : Rat) ≤ v := Rat.le_trans (show (1 / 1000 : Rat) ≤ 3 / 2 by decide +kernel) v1
          have KG := Lib.hid (fun w => logNumber_any l v nl v0 v2 w)
          clear v0
          have FACT := Lib.hid (And.intro nl (And.intro v1 (And.intro v2 (And.intro nm m1))))
          have EP := Lib.hid (And.intro hp ho)
          clear hp ho HO HO' el em nl v1 v2 nm m1 HE HG HB
          go_wp2_with fail
          refine (HO2.out _).mono ?_
          rintro e w1 ⟨rfl, rfl⟩
          go_wp2_with fail
          refine (HO2.out _).mono ?_
          rintro e w1 ⟨rfl, rfl⟩
          go_wp2_with fail
          refine (KL.out _).mono ?_
          rintro e w1 ⟨rfl, rfl⟩
          go_wp2_with fail
          refine (KG.out _).mono ?_
          rintro e w1 ⟨yl, rfl, ⟨y, n, ny, hl⟩, rfl⟩
          obtain ⟨p1, r, rv, f1, f2, nr, r0⟩ := border_quot FACT.out.1 ny hl FACT.out.2.1 FACT.out.2.2.1 FACT.out.2.2.2.1 FACT.out.2.2.2.2
          have KN := Lib.hid (fun w => ifNumber_yes r w ⟨rv, nr⟩)
          have RR := Lib.hid (And.intro nr r0)
          clear ny hl nr r0
          go_wp2_with fail
          refine (KD.out _).mono ?_
          rintro e w1 ⟨rfl, rfl⟩
          go_wp2_with fail
          refine (KN.out _).mono ?_
          rintro e w1 ⟨rfl, rfl⟩
          go_wp2_with fail
          go_ret2
          exact ⟨r, rv, rfl, RR.out.1, RR.out.2, (fun p' hp' ho' => by rw [EP.out.1] at hp'; cases hp'; rw [EP.out.2] at ho'; cases ho'), rfl⟩
    · have hj' : j = 40 := by omega
      subst hj'
      have hE := HE.out
      have hE' : some (z, d) = some (zf, df) := hE
      simp only [Option.some.injEq, Prod.mk.injEq] at hE'
      obtain ⟨rfl, rfl⟩ := hE'
      have hG := HG.out
      clear hE
      rcases hG with ⟨p, hp, ho⟩ | ⟨p, l, v, mm, mv, hp, ho, el, nl, v1, v2, em, nm, m1⟩
      · have HO := Lib.hid (fun w => isOut_any z.1 z.2 p w hp)
        have HO' : ∀ w, Calls Try.prog 69 #[.complex .f32 z.1 z.2] w fun e w' => e = .returned (.bool false) ∧ w = w' := fun w => by rw [← ho]; exact HO.out w
        have HO2 := Lib.hid HO'
        clear hp ho HO HO' HE HG HB
        go_wp2_with fail
        refine (HO2.out _).mono ?_
        rintro e w1 ⟨rfl, rfl⟩
        go_wp2_with fail
        go_ret2
        exact ⟨0, 0, rfl, num0, Rat.le_refl, (fun _ _ _ => rfl), rfl⟩
      · have HO := Lib.hid (fun w => isOut_any z.1 z.2 p w hp)
        have HO' : ∀ w, Calls Try.prog 69 #[.complex .f32 z.1 z.2] w fun e w' => e = .returned (.bool true) ∧ w = w' := fun w => by rw [← ho]; exact HO.out w
        have HO2 := Lib.hid HO'
        have KL := Lib.hid (fun w => longOf_any z.1 z.2 l w el)
        have KD := Lib.hid (fun w => longOf_any d.1 d.2 mm w em)
        have v0 : (1 / 1000 : Rat) ≤ v := Rat.le_trans (show (1 / 1000 : Rat) ≤ 3 / 2 by decide +kernel) v1
        have KG := Lib.hid (fun w => logNumber_any l v nl v0 v2 w)
        clear v0
        have FACT := Lib.hid (And.intro nl (And.intro v1 (And.intro v2 (And.intro nm m1))))
        have EP := Lib.hid (And.intro hp ho)
        clear hp ho HO HO' el em nl v1 v2 nm m1 HE HG HB
        go_wp2_with fail
        refine (HO2.out _).mono ?_
        rintro e w1 ⟨rfl, rfl⟩
        go_wp2_with fail
        refine (KL.out _).mono ?_
        rintro e w1 ⟨rfl, rfl⟩
        go_wp2_with fail
        refine (KG.out _).mono ?_
        rintro e w1 ⟨yl, rfl, ⟨y, n, ny, hl⟩, rfl⟩
        obtain ⟨p1, r, rv, f1, f2, nr, r0⟩ := border_quot FACT.out.1 ny hl FACT.out.2.1 FACT.out.2.2.1 FACT.out.2.2.2.1 FACT.out.2.2.2.2
        have KN := Lib.hid (fun w => ifNumber_yes r w ⟨rv, nr⟩)
        have RR := Lib.hid (And.intro nr r0)
        clear ny hl nr r0
        go_wp2_with fail
        refine (KD.out _).mono ?_
        rintro e w1 ⟨rfl, rfl⟩
        go_wp2_with fail
        refine (KN.out _).mono ?_
        rintro e w1 ⟨rfl, rfl⟩
        go_wp2_with fail
        go_ret2
        exact ⟨r, rv, rfl, RR.out.1, RR.out.2, (fun p' hp' ho' => by rw [EP.out.1] at hp'; cases hp'; rw [EP.out.2] at ho'; cases ho'), rfl⟩
end
end Go.Proofs.Ytjhicedblobjfaa
