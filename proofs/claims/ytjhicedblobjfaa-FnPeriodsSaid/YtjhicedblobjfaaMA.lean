/- Walks: escapes and orbits. · Walks: escapes, finite numbers, the same numbers, MapOnce. · Walks: the same numbers; roots; seeds. -/
import Derived.Test.YtjhicedblobjfaaA3
namespace Go.Proofs.Ytjhicedblobjfaa
open Go.RowKit

section
set_option maxHeartbeats 400000

theorem isOut_any (a b p : Nat) (w : World) (h : powerF a b = some p) :
    Calls Try.prog 69 #[.complex .f32 a b] w fun e w' => e = .returned (.bool (outB p)) ∧ w = w' := by
  have H := Lib.hid (fun w => powerOf_any a b p w h)
  clear h
  have hid : ∀ b, outB p = b → outB p = b := fun _ h => h
  cases h1 : (FloatKind.f32.format.order p 1082130432 == some .gt)
  all_goals (cases h2 : (FloatKind.f32.format.order p p != some .eq))
  all_goals (have hout := Lib.hid (show outB p = _ from by unfold outB; rw [h1, h2]); clear hid)
  all_goals (go_enter Try.func69, Try.ntmps69)
  all_goals (go_wp2_with (go_at_call 33; refine (H.out _).mono ?_; rintro e w' ⟨rfl, rfl⟩))
  all_goals (go_ret; exact ⟨by rw [hout.out]; rfl, rfl⟩)

theorem areEscape_yes (k : Int) (hk0 : 0 ≤ k) (hk : k ≤ 3) (ca cb a b : Nat) (n : Int) (h0 : 0 ≤ n) (h1 : n ≤ 128) (w : World) (hc : SmallC ca cb) (hz : SmallC a b) :
    Calls Try.prog 66 #[.agg #[.int .i64 k, .complex .f32 ca cb], .complex .f32 a b, .int .i64 n] w fun e w' => e = .returned (.bool true) ∧ Below w.heap.size w w' := by
  have H1 := Lib.hid (fun w => validMap_yes k hk0 hk ca cb w hc)
  have H2 := Lib.hid (fun w => isSmall_yes a b w hz)
  clear hc hz
  go_enter Try.func66, Try.ntmps66
  go_wp2_with fail
  refine (H1.out _).mono ?_
  rintro e w1 ⟨rfl, hb⟩
  go_wp2_with (first | (go_at_call 48; refine (H2.out _).mono ?_; rintro e w' ⟨rfl, rfl⟩) | (go_at_call 49; refine (areTurns_yes _ (by omega) (by omega) _).mono ?_; rintro e w' ⟨rfl, rfl⟩))
  go_ret
  exact ⟨rfl, (((Below.refl _ _).alloc (Nat.le_refl _) _).trans (hb.mono (by simp)))⟩

theorem bcell {W w1 : World} {B : Nat} (hb : Below B W w1) : (∀ b o, b < B → w1.cell? ⟨b, o, none⟩ = W.cell? ⟨b, o, none⟩) ∧ (∀ b o, b < B → w1.frozen? ⟨b, o, none⟩ = W.frozen? ⟨b, o, none⟩) :=
  ⟨fun b o h => hb.cell (p := ⟨b, o, none⟩) h, fun b o h => hb.frozen (p := ⟨b, o, none⟩) h⟩

theorem escF_stop {k : Int} {ca cb f i a b p : Nat} {R : Nat × Nat × Nat} (h : escF k ca cb (f + 1) i a b = some R) (hp : powerF a b = some p) (ho : outB p = true) : R = (i, a, b) := by
  simp [escF, hp, ho] at h; exact h.symm
theorem escF_go {k : Int} {ca cb f i a b p : Nat} {R : Nat × Nat × Nat} (h : escF k ca cb (f + 1) i a b = some R) (hp : powerF a b = some p) (ho : outB p = false) :
    ∃ z, onceF k ca cb a b = some z ∧ escF k ca cb f (i + 1) z.1 z.2 = some R := by
  simp only [escF, hp, Option.bind_eq_bind, Option.bind_some, ho, Bool.false_eq_true, if_false] at h
  exact bindS h
theorem escF_pow {k : Int} {ca cb f i a b : Nat} {R : Nat × Nat × Nat} (h : escF k ca cb (f + 1) i a b = some R) : ∃ p, powerF a b = some p := by
  obtain ⟨p, hp, _⟩ := bindS h; exact ⟨p, hp⟩

theorem escape_any (k : Int) (hk0 : 0 ≤ k) (hk : k ≤ 3) (ca cb a b most : Nat) (hm : most ≤ 128) (R : Nat × Nat × Nat) (w : World) (h : escF k ca cb most 0 a b = some R) :
    Calls Try.prog 67 #[.agg #[.int .i64 k, .complex .f32 ca cb], .complex .f32 a b, .int .i64 most] w fun e w' => e = .returned (.tuple #[.int .i64 R.1, .complex .f32 R.2.1 R.2.2]) ∧ Below w.heap.size w w' := by
  have H := Lib.hid h
  clear h
  go_enter Try.func67, Try.ntmps67
  go_wp2
  go_loopw [1, 10] (fun z i wr => ∃ (j za zb : Nat), j ≤ most ∧ i = .int .i64 j ∧ z = .complex .f32 za zb ∧ Hid (escF k ca cb (most - j) j za zb = some R) ∧ Below (w.heap.size + 1) (w.alloc (.cells #[.int .i64 k, .complex .f32 ca cb] 28)) wr) (fun _ i _ => most - (intOf i).toNat)
  case atStart => exact ⟨0, a, b, Nat.zero_le _, rfl, rfl, H, Below.refl _ _⟩
  case round =>
    obtain ⟨j, za, zb, hj, rfl, rfl, HE, hb⟩ := hrel
    by_cases hlt : j < most
    · obtain ⟨f, hf⟩ : ∃ f, most - j = f + 1 := ⟨most - j - 1, by omega⟩
      have hE := HE.out
      rw [hf] at hE
      obtain ⟨p, hp⟩ := escF_pow hE
      have HO := Lib.hid (fun w => isOut_any za zb p w hp)
      have hbs := hb.size
      have hc0 : wr.cell? ⟨w.heap.size, 0, none⟩ = some (.int .i64 k) := by rw [(bcell hb).1 _ _ (by omega)]; simp
      have hc1 : wr.cell? ⟨w.heap.size, 1, none⟩ = some (.complex .f32 ca cb) := by rw [(bcell hb).1 _ _ (by omega)]; simp
      cases ho : outB p
      · obtain ⟨z, hz, hE2⟩ := escF_go hE hp ho
        have HN := Lib.hid (fun w => once_any k hk0 hk ca cb za zb z w hz)
        have hf' : f = most - (j + 1) := by omega
        rw [hf'] at hE2
        have HE2 := Lib.hid hE2
        clear hE hE2 hp hz hf hf'
        have HO' : ∀ w, Calls Try.prog 69 #[.complex .f32 za zb] w fun e w' => e = .returned (.bool false) ∧ w = w' := fun w => by rw [← ho]; exact HO.out w
        have HO2 := Lib.hid HO'
        clear ho HO HO'
        go_wp2_with (first | (go_at_call 69; refine (HO2.out _).mono ?_; rintro e w' ⟨rfl, rfl⟩) | (go_at_call 52; refine (HN.out _).mono ?_; rintro e w1 ⟨rfl, hb1⟩))
        go_roundw
        case rel => exact ⟨j + 1, z.1, z.2, by omega, by go_num, rfl, HE2, hb.trans (hb1.mono (by simp at hbs; omega))⟩
        case measure => simp [intOf]; omega
      · have hR := escF_stop hE hp ho
        have HR := Lib.hid hR
        clear hE hR hp hf
        have HO' : ∀ w, Calls Try.prog 69 #[.complex .f32 za zb] w fun e w' => e = .returned (.bool true) ∧ w = w' := fun w => by rw [← ho]; exact HO.out w
        have HO2 := Lib.hid HO'
        clear ho HO HO'
        go_wp2_with (first | (go_at_call 69; refine (HO2.out _).mono ?_; rintro e w' ⟨rfl, rfl⟩))
        go_ret2
        exact ⟨by have hR := HR.out; subst hR; rfl, ((Below.refl _ _).alloc (Nat.le_refl _) _).trans (hb.mono (by omega))⟩
    · have hj' : j = most := by omega
      have hE := HE.out
      have e0 : most - j = 0 := by omega
      rw [e0] at hE
      have hR : R = (most, za, zb) := by rw [hj'] at hE; simp [escF] at hE; exact hE.symm
      have HR := Lib.hid hR
      clear hE hR e0 hj'
      go_wp2
      go_ret2
      exact ⟨by have hR := HR.out; subst hR; rfl, ((Below.refl _ _).alloc (Nat.le_refl _) _).trans (hb.mono (by omega))⟩
end
end Go.Proofs.Ytjhicedblobjfaa

namespace Go.Proofs.Ytjhicedblobjfaa
open Go.RowKit

section
set_option maxHeartbeats 400000

theorem escapeOf_any (k : Int) (hk0 : 0 ≤ k) (hk : k ≤ 3) (ca cb a b most : Nat) (hm : most ≤ 128) (R : Nat × Nat × Nat) (w : World) (hc : SmallC ca cb) (hz : SmallC a b) (h : escF k ca cb most 0 a b = some R) :
    Calls Try.prog 16 #[.agg #[.int .i64 k, .complex .f32 ca cb], .complex .f32 a b, .int .i64 most] w fun e w' => e = .returned (.tuple #[.int .i64 R.1, .bool true]) ∧ Below w.heap.size w w' := by
  have H1 := Lib.hid (fun w => areEscape_yes k hk0 hk ca cb a b most (by omega) (by omega) w hc hz)
  have H2 := Lib.hid (fun w => escape_any k hk0 hk ca cb a b most hm R w h)
  clear hc hz h
  go_enter Try.func16, Try.ntmps16
  go_wp2_with fail
  refine (H1.out _).mono ?_
  rintro e w1 ⟨rfl, hb⟩
  obtain ⟨hc, hf⟩ := bcell hb
  have hz : w.heap.size + 1 ≤ w1.heap.size := by have := hb.size; simp at this; omega
  go_wp2_with fail
  refine (H2.out _).mono ?_
  rintro e w2 ⟨rfl, hb2⟩
  clear hc hf
  go_wp2_with fail
  go_ret2
  exact ⟨rfl, (((Below.refl _ _).alloc (Nat.le_refl _) _).trans (hb.mono (by simp))).trans (hb2.mono (by omega))⟩

theorem rep0 (k : FloatKind) : Rep k.format 0 := rep_nat k (n := 0) (by cases k <;> decide)
theorem num0 : NumK .f32 0 0 := num_lit .f32 0 false 0 (-149) 0 (by kernel_rfl) (by kernel_rfl)

theorem isFinite_yes (a : Nat) (w : World) (h : Fin32 a) :
    Calls Try.prog 51 #[.float .f32 a] w fun e w' => e = .returned (.bool true) ∧ w = w' := by
  obtain ⟨v, hv⟩ := h
  obtain ⟨r, z, h1, h2, h3⟩ := sub_num hv hv (by rw [Rat.sub_self]; exact p2_pos _) (by rw [Rat.sub_self]; have := p2_pos (top FloatKind.f32.format); grind)
  rw [Rat.sub_self] at h3
  have hz := near_exact h3 (rep0 .f32)
  subst hz
  have ho : (FloatKind.f32.format.order r 0 == some .eq) = true := by
    rw [order_num h2 num0]; simp [Rat.lt_irrefl]
  clear h2 h3 hv
  go_enter Try.func51, Try.ntmps51
  go_wp2
  go_ret
  exact ⟨rfl, rfl⟩

theorem isFiniteC_yes (a b : Nat) (w : World) (ha : Fin32 a) (hb : Fin32 b) :
    Calls Try.prog 54 #[.complex .f32 a b] w fun e w' => e = .returned (.bool true) ∧ w = w' := by
  have H1 := Lib.hid (fun w => isFinite_yes a w ha)
  have H2 := Lib.hid (fun w => isFinite_yes b w hb)
  clear ha hb
  go_enter Try.func54, Try.ntmps54
  go_wp2_with fail
  refine (H1.out _).mono ?_
  rintro e w1 ⟨rfl, rfl⟩
  go_wp2_with fail
  refine (H2.out _).mono ?_
  rintro e w1 ⟨rfl, rfl⟩
  go_wp2_with fail
  go_ret
  exact ⟨rfl, rfl⟩

theorem ifComplex_yes (a b : Nat) (w : World) (ha : Fin32 a) (hb : Fin32 b) :
    Calls Try.prog 59 #[.complex .f32 a b] w fun e w' => e = .returned (.tuple #[.complex .f32 a b, .bool true]) ∧ w = w' := by
  have H1 := Lib.hid (fun w => isFiniteC_yes a b w ha hb)
  clear ha hb
  go_enter Try.func59, Try.ntmps59
  go_wp2_with (go_at_call 54; refine (H1.out _).mono ?_; rintro e w' ⟨rfl, rfl⟩)
  go_ret2
  exact ⟨rfl, rfl⟩

theorem ifNumber_yes (a : Nat) (w : World) (ha : Fin32 a) :
    Calls Try.prog 73 #[.float .f32 a] w fun e w' => e = .returned (.tuple #[.float .f32 a, .bool true]) ∧ w = w' := by
  have H1 := Lib.hid (fun w => isFinite_yes a w ha)
  clear ha
  go_enter Try.func73, Try.ntmps73
  go_wp2_with (go_at_call 51; refine (H1.out _).mono ?_; rintro e w' ⟨rfl, rfl⟩)
  go_ret2
  exact ⟨rfl, rfl⟩

theorem mapOnce_any (k : Int) (hk0 : 0 ≤ k) (hk : k ≤ 3) (ca cb a b : Nat) (r : Nat × Nat) (w : World) (hc : SmallC ca cb) (hz : SmallC a b) (h : onceF k ca cb a b = some r) (h1 : Fin32 r.1) (h2 : Fin32 r.2) :
    Calls Try.prog 34 #[.agg #[.int .i64 k, .complex .f32 ca cb], .complex .f32 a b] w fun e w' => e = .returned (.tuple #[.complex .f32 r.1 r.2, .bool true]) ∧ Below w.heap.size w w' := by
  have H1 := Lib.hid (fun w => validMap_yes k hk0 hk ca cb w hc)
  have H2 := Lib.hid (fun w => isSmall_yes a b w hz)
  have H3 := Lib.hid (fun w => once_any k hk0 hk ca cb a b r w h)
  have H4 := Lib.hid (fun w => ifComplex_yes r.1 r.2 w h1 h2)
  clear hc hz h h1 h2
  go_enter Try.func34, Try.ntmps34
  go_wp2_with fail
  refine (H1.out _).mono ?_
  rintro e w1 ⟨rfl, hb⟩
  obtain ⟨hc, hf⟩ := bcell hb
  have hz : w.heap.size + 1 ≤ w1.heap.size := by have := hb.size; simp at this; omega
  go_wp2_with (go_at_call 48; refine (H2.out _).mono ?_; rintro e w' ⟨rfl, rfl⟩)
  refine (H3.out _).mono ?_
  rintro e w2 ⟨rfl, hb2⟩
  clear hc hf
  go_wp2_with (go_at_call 59; refine (H4.out _).mono ?_; rintro e w' ⟨rfl, rfl⟩)
  go_ret2
  exact ⟨rfl, (((Below.refl _ _).alloc (Nat.le_refl _) _).trans (hb.mono (by simp))).trans (hb2.mono (by omega))⟩

theorem signbit_any (x : Nat) (w : World) :
    Calls Try.prog 115 #[.float .f64 x] w fun e w' => e = .returned (.bool (decide (wrap64 (x : Int) < 0))) ∧ w = w' := by
  have h1 := fun w => run_f64bits x w
  go_enter Try.func115, Try.ntmps115
  go_wp2
  go_ret
  exact ⟨rfl, rfl⟩
end
end Go.Proofs.Ytjhicedblobjfaa

namespace Go.Proofs.Ytjhicedblobjfaa
open Go.RowKit

section
set_option maxHeartbeats 400000

theorem sameNumber_self (a : Nat) (w : World) (h : Fin32 a) :
    Calls Try.prog 81 #[.float .f32 a, .float .f32 a] w fun e w' => e = .returned (.bool true) ∧ w = w' := by
  obtain ⟨v, hv⟩ := h
  obtain ⟨x, hx, _, _⟩ := widen_num hv
  have ho : FloatKind.f32.format.order a a = some .eq := by rw [order_num hv hv]; simp [Rat.lt_irrefl]
  have h1 : (FloatKind.f32.format.order a a == some .eq) = true := by rw [ho]; rfl
  have h2 : (FloatKind.f32.format.order a a != some .eq) = false := by rw [ho]; rfl
  clear ho hv
  have S0 := fun w => signbit_any x w
  obtain ⟨s, hs⟩ : ∃ s, decide (wrap64 (x : Int) < 0) = s := ⟨_, rfl⟩
  simp only [hs] at S0
  clear hs
  cases s
  all_goals (have S := Lib.hid S0; clear S0)
  all_goals (go_enter Try.func81, Try.ntmps81)
  all_goals go_wp2_with fail
  all_goals (refine (S.out _).mono ?_; rintro e w1 ⟨rfl, rfl⟩)
  all_goals go_wp2_with fail
  all_goals (refine (S.out _).mono ?_; rintro e w1 ⟨rfl, rfl⟩)
  all_goals go_wp2_with fail
  all_goals (go_ret; exact ⟨rfl, rfl⟩)

theorem sameComplex_self (a b : Nat) (w : World) (ha : Fin32 a) (hb : Fin32 b) :
    Calls Try.prog 26 #[.complex .f32 a b, .complex .f32 a b] w fun e w' => e = .returned (.bool true) ∧ w = w' := by
  have H1 := Lib.hid (fun w => sameNumber_self a w ha)
  have H2 := Lib.hid (fun w => sameNumber_self b w hb)
  clear ha hb
  go_enter Try.func26, Try.ntmps26
  go_wp2_with fail
  refine (H1.out _).mono ?_
  rintro e w1 ⟨rfl, rfl⟩
  go_wp2_with fail
  refine (H2.out _).mono ?_
  rintro e w1 ⟨rfl, rfl⟩
  go_wp2_with fail
  go_ret
  exact ⟨rfl, rfl⟩

theorem rootNumber_any (a r : Nat) (w : World) (h : rootNumF a = some r) :
    Calls Try.prog 127 #[.float .f32 a] w fun e w' => e = .returned (.float .f32 r) ∧ w = w' := by
  obtain ⟨x, hx, h⟩ := bindS h
  obtain ⟨y, hy, h⟩ := bindS h
  have H := Lib.hid (fun w => sqrt_any x y w hy)
  clear hy
  go_enter Try.func127, Try.ntmps127
  go_wp2_with (go_at_call 55; refine (H.out _).mono ?_; rintro e w' ⟨rfl, rfl⟩)
  go_ret
  exact ⟨rfl, rfl⟩

theorem rootPart_any (a r : Nat) (w : World) (h : rootPartF a = some r) :
    Calls Try.prog 116 #[.float .f32 a] w fun e w' => e = .returned (.float .f32 r) ∧ w = w' := by
  obtain ⟨x, hx, h⟩ := bindS h
  cases ho : (FloatKind.f32.format.order x 0 == some .lt)
  · rw [ho, if_neg (by decide)] at h
    have H := Lib.hid (fun w => rootNumber_any x r w h)
    clear h
    go_enter Try.func116, Try.ntmps116
    go_wp2_with (go_at_call 127; refine (H.out _).mono ?_; rintro e w' ⟨rfl, rfl⟩)
    go_ret
    exact ⟨rfl, rfl⟩
  · rw [ho, if_pos rfl] at h
    have H := Lib.hid (fun w => rootNumber_any 0 r w h)
    clear h
    go_enter Try.func116, Try.ntmps116
    go_wp2_with (go_at_call 127; refine (H.out _).mono ?_; rintro e w' ⟨rfl, rfl⟩)
    go_ret
    exact ⟨rfl, rfl⟩

theorem root_any (a b : Nat) (r : Nat × Nat) (w : World) (h : rootF a b = some r) :
    Calls Try.prog 89 #[.complex .f32 a b] w fun e w' => e = .returned (.complex .f32 r.1 r.2) ∧ w = w' := by
  obtain ⟨l, hl, h⟩ := bindS h
  obtain ⟨s, hs, h⟩ := bindS h
  obtain ⟨u, hu, h⟩ := bindS h
  obtain ⟨d, hd, h⟩ := bindS h
  obtain ⟨v, hv, h⟩ := bindS h
  have H1 := Lib.hid (fun w => longOf_any a b l w hl)
  have H2 := Lib.hid (fun w => rootPart_any s u w hu)
  have H3 := Lib.hid (fun w => rootPart_any d v w hv)
  clear hl hu hv
  cases ho : (FloatKind.f32.format.order b 0 == some .lt)
  all_goals (rw [ho] at h; cases h)
  all_goals (go_enter Try.func89, Try.ntmps89)
  all_goals go_wp2_with fail
  all_goals (refine (H1.out _).mono ?_; rintro e w1 ⟨rfl, rfl⟩)
  all_goals go_wp2_with fail
  all_goals (refine (H2.out _).mono ?_; rintro e w1 ⟨rfl, rfl⟩)
  all_goals go_wp2_with fail
  all_goals (refine (H3.out _).mono ?_; rintro e w1 ⟨rfl, rfl⟩)
  all_goals go_wp2_with fail
  all_goals (go_ret; exact ⟨rfl, rfl⟩)

theorem isSeed_yes (n : Int) (h0 : 0 ≤ n) (h1 : n ≤ 2147483647) (w : World) :
    Calls Try.prog 90 #[.int .i64 n] w fun e w' => e = .returned (.bool true) ∧ w = w' := by
  go_enter Try.func90, Try.ntmps90
  go_wp2_with (go_at_call 50; refine (within_yes _ _ _ _ (by omega) (by omega)).mono ?_; rintro e w' ⟨rfl, rfl⟩)
  go_ret
  exact ⟨rfl, rfl⟩

theorem nextSeed_any (n : Int) (h0 : 0 ≤ n) (h1 : n ≤ 2147483647) (w : World) :
    Calls Try.prog 91 #[.int .i64 n] w fun e w' => e = .returned (.int .i64 ((1103515245 * n + 12345) % 2147483648)) ∧ w = w' := by
  go_enter Try.func91, Try.ntmps91
  go_wp2
  go_ret
  exact ⟨rfl, rfl⟩
end
end Go.Proofs.Ytjhicedblobjfaa
