/- Walks: small or not; periods. -/
import Derived.Test.YtjhicedblobjfaaG1
namespace Go.Proofs.Ytjhicedblobjfaa
open Go.RowKit

theorem fair_isSmall (z : Nat × Nat) (h : Fair z) : ∃ s : Bool, (∀ w, Calls Try.prog 48 #[.complex .f32 z.1 z.2] w fun e w' => e = .returned (.bool s) ∧ w = w') ∧ (s = true → SmallC z.1 z.2) := by
  obtain ⟨x, y, hc, bx, bY⟩ := h
  have c61 : (2 : Rat) ^ (44 : Int) ≤ 2 ^ (61 : Int) := p2_mono (by decide)
  obtain ⟨sa, ua, ea, na, a1, a2, a0⟩ := sizeF_num hc.1 (ab_mono bx c61)
  obtain ⟨sb, ub, eb, nb, b1, b2, b0⟩ := sizeF_num hc.2 (ab_mono bY c61)
  refine ⟨_, fun w => isSmall_any z.1 z.2 sa sb w ea eb, fun hs => ?_⟩
  rw [Bool.and_eq_true, le32_num na num1000, le32_num nb num1000, decide_eq_true_iff, decide_eq_true_iff] at hs
  refine ⟨x, y, hc, ?_, ?_⟩
  · rcases Rat.le_total (a := 0) (b := x) with h0 | h0
    · rw [a1 h0] at hs; constructor <;> grind
    · rw [a2 h0] at hs; constructor <;> grind
  · rcases Rat.le_total (a := 0) (b := y) with h0 | h0
    · rw [b1 h0] at hs; constructor <;> grind
    · rw [b2 h0] at hs; constructor <;> grind

def PerPost (k : Int) (ca cb a b skip most near : Nat) (w : World) (e : Ending) (w' : World) : Prop :=
  Below w.heap.size w w' ∧ (e = .returned (.tuple #[.int .i64 0, .bool false]) ∨ ∃ (p : Nat) (L : List (Nat × Nat)), e = .returned (.tuple #[.int .i64 p, .bool true]) ∧ p ≤ most ∧ PerGood k ca cb a b skip near p L)

section
set_option maxHeartbeats 0
set_option maxRecDepth 100000

theorem periodOf_any (k : Int) (hk0 : 0 ≤ k) (hk : k ≤ 3) (ca cb a b skip most near : Nat) (v : Rat) (hs : skip ≤ 60) (hm0 : 1 ≤ most) (hm : most ≤ 60) (nn : NumK .f32 near v) (v0 : 0 ≤ v) (w : World) (hc : SmallC ca cb) (hz : SmallC a b) :
    Calls Try.prog 10 #[.agg #[.int .i64 k, .complex .f32 ca cb], .complex .f32 a b, .int .i64 skip, .int .i64 most, .float .f32 near] w (PerPost k ca cb a b skip most near w) := by
  have H1 := Lib.hid (fun w => validMap_yes k hk0 hk ca cb w hc)
  have H2 := Lib.hid (fun w => isSmall_yes a b w hz)
  have HF := Lib.hid (fun w => isFinite_yes near w ⟨v, nn⟩)
  have ho := ord_ge nn num0 v0
  have HC := Lib.hid hc
  have HZ0 := Lib.hid hz
  clear hc hz nn v0
  go_enter Try.func10, Try.ntmps10
  go_wp2_with fail
  refine (H1.out _).mono ?_
  rintro e w1 ⟨rfl, hb⟩
  go_wp2_with fail
  refine (H2.out _).mono ?_
  rintro e w2 ⟨rfl, rfl⟩
  go_wp2_with (first | (go_at_call 49; refine (areTurns_yes _ (by omega) (by omega) _).mono ?_; rintro e w' ⟨rfl, rfl⟩) | (go_at_call 50; refine (within_yes _ _ _ _ (by omega) (by omega)).mono ?_; rintro e w' ⟨rfl, rfl⟩) | (go_at_call 51; refine (HF.out _).mono ?_; rintro e w' ⟨rfl, rfl⟩))
  have hsz1 : w.heap.size + 1 ≤ w1.heap.size := by have := hb.size; simp at this; omega
  have hb0 : Below (w.heap.size + 1) (w.alloc (.cells #[.int .i64 k, .complex .f32 ca cb] 28)) w1 := hb.mono (by simp)
  clear hb ho H1 H2 HF
  go_loopw [1, 43] (fun zz i wr => ∃ (j : Nat) (z : Nat × Nat), j ≤ skip ∧ i = .int .i64 j ∧ zz = .complex .f32 z.1 z.2 ∧ Hid (∃ L, Orb k ca cb a b j L ∧ L.getD j (0, 0) = z ∧ Fair z) ∧
      Below (w.heap.size + 1) (w.alloc (.cells #[.int .i64 k, .complex .f32 ca cb] 28)) wr) (fun _ i _ => skip - (intOf i).toNat)
  case atStart =>
    refine ⟨0, (a, b), by omega, rfl, rfl, Lib.hid ⟨[(a, b)], ⟨rfl, rfl, fun j hj => absurd hj (by omega), fun j hj => absurd hj (by omega), fun j hj => ?_⟩, rfl, fair_small HZ0.out⟩, hb0⟩
    obtain rfl : j = 0 := by omega
    exact fair_fin (fair_small HZ0.out)
  case round =>
    obtain ⟨j, z, hj, rfl, rfl, HL, hbr⟩ := hrel
    have hbs : w.heap.size + 1 ≤ wr.heap.size := by have := hbr.size; simp at this; omega
    have hc0 : wr.cell? ⟨w.heap.size, 0, none⟩ = some (.int .i64 k) := by rw [(bcell hbr).1 _ _ (by omega)]; simp
    have hc1 : wr.cell? ⟨w.heap.size, 1, none⟩ = some (.complex .f32 ca cb) := by rw [(bcell hbr).1 _ _ (by omega)]; simp
    have hfin : Below w.heap.size w wr := ((Below.refl _ _).alloc (Nat.le_refl _) _).trans (hbr.mono (by omega))
    by_cases hlt : j < skip
    · obtain ⟨L, hO, hz, hF⟩ := HL.out
      obtain ⟨s, HS, hsm⟩ := fair_isSmall z hF
      have HS := Lib.hid HS
      cases s
      · clear hO hz hF hsm HL
        go_wp2_with (go_at_call 48; refine (HS.out _).mono ?_; rintro e w' ⟨rfl, rfl⟩)
        go_ret2
        exact ⟨hfin, Or.inl rfl⟩
      · have hsm := hsm rfl
        obtain ⟨r, u, v', er, cr, br, br'⟩ := once_big hk0 hk HC.out hsm
        have HN := Lib.hid (fun w => once_any k hk0 hk ca cb z.1 z.2 r w er)
        have HL2 : Hid (∃ L, Orb k ca cb a b (j + 1) L ∧ L.getD (j + 1) (0, 0) = r ∧ Fair r) := by
          have hFr : Fair r := ⟨u, v', cr, br, br'⟩
          obtain ⟨g1, g2, _⟩ := orb_more hO (by rw [hz]; exact hsm) (by rw [hz]; exact er) (fair_fin hFr)
          exact ⟨_, g1, g2, hFr⟩
        clear hO hz hF hsm HL er cr br br'
        go_wp2_with (go_at_call 48; refine (HS.out _).mono ?_; rintro e w' ⟨rfl, rfl⟩)
        refine (HN.out _).mono ?_
        rintro e w2 ⟨rfl, hb2⟩
        clear hc0 hc1
        go_wp2_with fail
        go_roundw
        case rel => exact ⟨j + 1, r, by omega, by go_num, rfl, HL2, hbr.trans (hb2.mono hbs)⟩
        case measure => simp [intOf]; omega
    · have hjs : j = skip := by omega
      subst hjs
      obtain ⟨L0, hO0, hz0, hF0⟩ := HL.out
      have HF0 := Lib.hid hF0
      have HI : Hid (∃ L, Orb k ca cb a b (j + 0) L ∧ L.getD (j + 0) (0, 0) = z ∧ Fair z ∧ L.getD j (0, 0) = z ∧ ∀ i, 1 ≤ i → i < 0 + 1 → distF (L.getD (j + i) (0, 0)) (L.getD j (0, 0)) near = some false) :=
        ⟨L0, hO0, hz0, hF0, hz0, fun i h1 h2 => absurd h2 (by omega)⟩
      clear hO0 hz0 hF0 HL hc0 hc1 hfin
      go_wp2_with fail
      go_loopw [1, 13] (fun zz i wr' => ∃ (t : Nat) (y : Nat × Nat), t ≤ most ∧ i = .int .i64 ((t : Int) + 1) ∧ zz = .complex .f32 y.1 y.2 ∧
          Hid (∃ L, Orb k ca cb a b (j + t) L ∧ L.getD (j + t) (0, 0) = y ∧ Fair y ∧ L.getD j (0, 0) = z ∧ ∀ i, 1 ≤ i → i < t + 1 → distF (L.getD (j + i) (0, 0)) (L.getD j (0, 0)) near = some false) ∧
          Below (w.heap.size + 1) (w.alloc (.cells #[.int .i64 k, .complex .f32 ca cb] 28)) wr') (fun _ i _ => most + 1 - (intOf i).toNat)
      case atStart => exact ⟨0, z, by omega, rfl, rfl, HI, hbr⟩
      case round =>
        obtain ⟨t, y, ht, rfl, rfl, HL, hbr'⟩ := hrel
        have hbs' : w.heap.size + 1 ≤ wr.heap.size := by have := hbr'.size; simp at this; omega
        have hc0 : wr.cell? ⟨w.heap.size, 0, none⟩ = some (.int .i64 k) := by rw [(bcell hbr').1 _ _ (by omega)]; simp
        have hc1 : wr.cell? ⟨w.heap.size, 1, none⟩ = some (.complex .f32 ca cb) := by rw [(bcell hbr').1 _ _ (by omega)]; simp
        have hfin : Below w.heap.size w wr := ((Below.refl _ _).alloc (Nat.le_refl _) _).trans (hbr'.mono (by omega))
        by_cases hlt : t < most
        · obtain ⟨L, hO, hy, hF, hz, hfar⟩ := HL.out
          obtain ⟨s, HS, hsm⟩ := fair_isSmall y hF
          have HS := Lib.hid HS
          cases s
          · clear hO hy hF hsm HL hfar hz
            go_wp2_with (go_at_call 48; refine (HS.out _).mono ?_; rintro e w' ⟨rfl, rfl⟩)
            go_ret2
            exact ⟨hfin, Or.inl rfl⟩
          · have hsm := hsm rfl
            obtain ⟨r, u, v', er, cr, br, br'⟩ := once_big hk0 hk HC.out hsm
            have hFr : Fair r := ⟨u, v', cr, br, br'⟩
            have HN := Lib.hid (fun w => once_any k hk0 hk ca cb y.1 y.2 r w er)
            obtain ⟨e, l, _, d1, d2, _, _⟩ := dist_some hFr HF0.out
            have HD := Lib.hid (fun w => subtract_any r.1 r.2 z.1 z.2 e w d1)
            have HLG := Lib.hid (fun w => longOf_any e.1 e.2 l w d2)
            obtain ⟨g1, g2, g3⟩ := orb_more hO (by rw [hy]; exact hsm) (by rw [hy]; exact er) (fair_fin hFr)
            have hd : distF r z near = some (le32 l near) := by simp [distF, d1, d2]
            have hz' : (L ++ [r]).getD j (0, 0) = z := by rw [g3 j (by omega), hz]
            cases hle : le32 l near
            · rw [hle] at hd
              have HI2 : Hid (∃ L, Orb k ca cb a b (j + (t + 1)) L ∧ L.getD (j + (t + 1)) (0, 0) = r ∧ Fair r ∧ L.getD j (0, 0) = z ∧ ∀ i, 1 ≤ i → i < t + 1 + 1 → distF (L.getD (j + i) (0, 0)) (L.getD j (0, 0)) near = some false) := by
                refine ⟨L ++ [r], g1, g2, hFr, hz', fun i h1 h2 => ?_⟩
                rw [hz']
                by_cases hi : i = t + 1
                · subst hi; rw [show j + (t + 1) = j + t + 1 from rfl, g2]; exact hd
                · rw [g3 (j + i) (by omega), ← hz]; exact hfar i h1 (by omega)
              unfold le32 at hle
              clear hO hy hF hsm HL hfar hz er cr br br' hFr d1 d2 g1 g2 g3 hd hz'
              go_wp2_with (go_at_call 48; refine (HS.out _).mono ?_; rintro e w' ⟨rfl, rfl⟩)
              refine (HN.out _).mono ?_
              rintro e w2 ⟨rfl, hb2⟩
              clear hc0 hc1
              go_wp2_with fail
              refine (HD.out _).mono ?_
              rintro e w3 ⟨rfl, rfl⟩
              go_wp2_with fail
              refine (HLG.out _).mono ?_
              rintro e w3 ⟨rfl, rfl⟩
              go_wp2_with fail
              go_roundw
              case rel => exact ⟨t + 1, r, by omega, by go_num, rfl, HI2, hbr'.trans (hb2.mono hbs')⟩
              case measure => simp [intOf]; omega
            · rw [hle] at hd
              have HG : Hid (PerGood k ca cb a b j near (t + 1) (L ++ [r])) := by
                refine ⟨g1, by omega, fun i h1 h2 => ?_, ?_⟩
                · rw [g3 (j + i) (by omega), g3 j (by omega)]; exact hfar i h1 (by omega)
                · rw [show j + (t + 1) = j + t + 1 from rfl, g2, hz']; exact hd
              unfold le32 at hle
              clear hO hy hF hsm HL hfar hz er cr br br' hFr d1 d2 g1 g2 g3 hd hz'
              go_wp2_with (go_at_call 48; refine (HS.out _).mono ?_; rintro e w' ⟨rfl, rfl⟩)
              refine (HN.out _).mono ?_
              rintro e w2 ⟨rfl, hb2⟩
              clear hc0 hc1
              go_wp2_with fail
              refine (HD.out _).mono ?_
              rintro e w3 ⟨rfl, rfl⟩
              go_wp2_with fail
              refine (HLG.out _).mono ?_
              rintro e w3 ⟨rfl, rfl⟩
              go_wp2_with fail
              go_ret2
              exact ⟨hfin.trans (hb2.mono (by omega)), Or.inr ⟨t + 1, _, by simp, by omega, HG⟩⟩
        · have htm : t = most := by omega
          subst htm
          clear HL hc0 hc1
          go_wp2_with fail
          go_ret2
          exact ⟨hfin, Or.inl rfl⟩
end
end Go.Proofs.Ytjhicedblobjfaa
