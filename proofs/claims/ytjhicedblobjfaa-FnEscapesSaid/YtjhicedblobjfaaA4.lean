/- Walks: escapes and orbits. -/
import Derived.Test.YtjhicedblobjfaaA3
namespace Go.Proofs.Ytjhicedblobjfaa
open Go.RowKit

section
set_option maxHeartbeats 400000

theorem isOut_any (a b p : Nat) (w : World) (h : powerF a b = some p) :
    Calls Try.prog 69 #[.complex .f32 a b] w fun e w' => e = .returned (.bool (outB p)) ∧ w = w' := by
  have H := Lib.hid (fun w => powerOf_any a b p w h)
  clear h
  have hid : ∀ b, outB p = b → outB p = b := fun _ h => h
  cases h1 : (FloatKind.f32.format.order p 1082130432 == some .gt)
  all_goals (cases h2 : (FloatKind.f32.format.order p p != some .eq))
  all_goals (have hout := Lib.hid (show outB p = _ from by unfold outB; rw [h1, h2]); clear hid)
  all_goals (go_enter Try.func69, Try.ntmps69)
  all_goals (go_wp2_with (go_at_call 33; refine (H.out _).mono ?_; rintro e w' ⟨rfl, rfl⟩))
  all_goals (go_ret; exact ⟨by rw [hout.out]; rfl, rfl⟩)

theorem areEscape_yes (k : Int) (hk0 : 0 ≤ k) (hk : k ≤ 3) (ca cb a b : Nat) (n : Int) (h0 : 0 ≤ n) (h1 : n ≤ 128) (w : World) (hc : SmallC ca cb) (hz : SmallC a b) :
    Calls Try.prog 66 #[.agg #[.int .i64 k, .complex .f32 ca cb], .complex .f32 a b, .int .i64 n] w fun e w' => e = .returned (.bool true) ∧ Below w.heap.size w w' := by
  have H1 := Lib.hid (fun w => validMap_yes k hk0 hk ca cb w hc)
  have H2 := Lib.hid (fun w => isSmall_yes a b w hz)
  clear hc hz
  go_enter Try.func66, Try.ntmps66
  go_wp2_with fail
  refine (H1.out _).mono ?_
  rintro e w1 ⟨rfl, hb⟩
  go_wp2_with (first | (go_at_call 48; refine (H2.out _).mono ?_; rintro e w' ⟨rfl, rfl⟩) | (go_at_call 49; refine (areTurns_yes _ (by omega) (by omega) _).mono ?_; rintro e w' ⟨rfl, rfl⟩))
  go_ret
  exact ⟨rfl, (((Below.refl _ _).alloc (Nat.le_refl _) _).trans (hb.mono (by simp)))⟩

theorem bcell {W w1 : World} {B : Nat} (hb : Below B W w1) : (∀ b o, b < B → w1.cell? ⟨b, o, none⟩ = W.cell? ⟨b, o, none⟩) ∧ (∀ b o, b < B → w1.frozen? ⟨b, o, none⟩ = W.frozen? ⟨b, o, none⟩) :=
  ⟨fun b o h => hb.cell (p := ⟨b, o, none⟩) h, fun b o h => hb.frozen (p := ⟨b, o, none⟩) h⟩

theorem escF_stop {k : Int} {ca cb f i a b p : Nat} {R : Nat × Nat × Nat} (h : escF k ca cb (f + 1) i a b = some R) (hp : powerF a b = some p) (ho : outB p = true) : R = (i, a, b) := by
  simp [escF, hp, ho] at h; exact h.symm
theorem escF_go {k : Int} {ca cb f i a b p : Nat} {R : Nat × Nat × Nat} (h : escF k ca cb (f + 1) i a b = some R) (hp : powerF a b = some p) (ho : outB p = false) :
    ∃ z, onceF k ca cb a b = some z ∧ escF k ca cb f (i + 1) z.1 z.2 = some R := by
  simp only [escF, hp, Option.bind_eq_bind, Option.bind_some, ho, Bool.false_eq_true, if_false] at h
  exact bindS h
theorem escF_pow {k : Int} {ca cb f i a b : Nat} {R : Nat × Nat × Nat} (h : escF k ca cb (f + 1) i a b = some R) : ∃ p, powerF a b = some p := by
  obtain ⟨p, hp, _⟩ := bindS h; exact ⟨p, hp⟩

theorem escape_any (k : Int) (hk0 : 0 ≤ k) (hk : k ≤ 3) (ca cb a b most : Nat) (hm : most ≤ 128) (R : Nat × Nat × Nat) (w : World) (h : escF k ca cb most 0 a b = some R) :
    Calls Try.prog 67 #[.agg #[.int .i64 k, .complex .f32 ca cb], .complex .f32 a b, .int .i64 most] w fun e w' => e = .returned (.tuple #[.int .i64 R.1, .complex .f32 R.2.1 R.2.2]) ∧ Below w.heap.size w w' := by
  have H := Lib.hid h
  clear h
  go_enter Try.func67, Try.ntmps67
  go_wp2
  go_loopw [1, 10] (fun z i wr => ∃ (j za zb : Nat), j ≤ most ∧ i = .int .i64 j ∧ z = .complex .f32 za zb ∧ Hid (escF k ca cb (most - j) j za zb = some R) ∧ Below (w.heap.size + 1) (w.alloc (.cells #[.int .i64 k, .complex .f32 ca cb] 28)) wr) (fun _ i _ => most - (intOf i).toNat)
  case atStart => exact ⟨0, a, b, Nat.zero_le _, rfl, rfl, H, Below.refl _ _⟩
  case round =>
    obtain ⟨j, za, zb, hj, rfl, rfl, HE, hb⟩ := hrel
    by_cases hlt : j < most
    · obtain ⟨f, hf⟩ : ∃ f, most - j = f + 1 := ⟨most - j - 1, by omega⟩
      have hE := HE.out
      rw [hf] at hE
      obtain ⟨p, hp⟩ := escF_pow hE
      have HO := Lib.hid (fun w => isOut_any za zb p w hp)
      have hbs := hb.size
      have hc0 : wr.cell? ⟨w.heap.size, 0, none⟩ = some (.int .i64 k) := by rw [(bcell hb).1 _ _ (by omega)]; simp
      have hc1 : wr.cell? ⟨w.heap.size, 1, none⟩ = some (.complex .f32 ca cb) := by rw [(bcell hb).1 _ _ (by omega)]; simp
      cases ho : outB p
      · obtain ⟨z, hz, hE2⟩ := escF_go hE hp ho
        have HN := Lib.hid (fun w => once_any k hk0 hk ca cb za zb z w hz)
        have hf' : f = most - (j + 1) := by omega
        rw [hf'] at hE2
        have HE2 := Lib.hid hE2
        clear hE hE2 hp hz hf hf'
        have HO' : ∀ w, Calls Try.prog 69 #[.complex .f32 za zb] w fun e w' => e = .returned (.bool false) ∧ w = w' := fun w => by rw [← ho]; exact HO.out w
        have HO2 := Lib.hid HO'
        clear ho HO HO'
        go_wp2_with (first | (go_at_call 69; refine (HO2.out _).mono ?_; rintro e w' ⟨rfl, rfl⟩) | (go_at_call 52; refine (HN.out _).mono ?_; rintro e w1 ⟨rfl, hb1⟩))
        go_roundw
        case rel => exact ⟨j + 1, z.1, z.2, by omega, by go_num, rfl, HE2, hb.trans (hb1.mono (by simp at hbs; omega))⟩
        case measure => simp [intOf]; omega
      · have hR := escF_stop hE hp ho
        have HR := Lib.hid hR
        clear hE hR hp hf
        have HO' : ∀ w, Calls Try.prog 69 #[.complex .f32 za zb] w fun e w' => e = .returned (.bool true) ∧ w = w' := fun w => by rw [← ho]; exact HO.out w
        have HO2 := Lib.hid HO'
        clear ho HO HO'
        go_wp2_with (first | (go_at_call 69; refine (HO2.out _).mono ?_; rintro e w' ⟨rfl, rfl⟩))
        go_ret2
        exact ⟨by have hR := HR.out; subst hR; rfl, ((Below.refl _ _).alloc (Nat.le_refl _) _).trans (hb.mono (by omega))⟩
    · have hj' : j = most := by omega
      have hE := HE.out
      have e0 : most - j = 0 := by omega
      rw [e0] at hE
      have hR : R = (most, za, zb) := by rw [hj'] at hE; simp [escF] at hE; exact hE.symm
      have HR := Lib.hid hR
      clear hE hR e0 hj'
      go_wp2
      go_ret2
      exact ⟨by have hR := HR.out; subst hR; rfl, ((Below.refl _ _).alloc (Nat.le_refl _) _).trans (hb.mono (by omega))⟩
end
end Go.Proofs.Ytjhicedblobjfaa
