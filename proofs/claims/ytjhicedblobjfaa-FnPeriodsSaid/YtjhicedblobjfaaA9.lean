/- Walks: 32-bit logarithms; smooth counts. -/
import Derived.Test.YtjhicedblobjfaaA8
import Derived.Test.YtjhicedblobjfaaF5
namespace Go.Proofs.Ytjhicedblobjfaa
open Go.RowKit

section
set_option maxHeartbeats 800000

theorem logNumber_any (a : Nat) (v : Rat) (hv : NumK .f32 a v) (h1 : 1 / 1000 ≤ v) (h2 : v ≤ 1000) (w : World) :
    Calls Try.prog 74 #[.float .f32 a] w (RetF .f32 (fun r => ∃ y n, NumK .f32 r y ∧ LogIs32 v n y) w) := by
  obtain ⟨x, hx, nx, _⟩ := widen_num hv
  have HN := Lib.hid (fun w => naturalLog_any x v nx (by grind) (by grind) w)
  have HF := Lib.hid (fun w => isFinite_yes a w ⟨v, hv⟩)
  have o1 := ord_ne hv num0 (show v ≠ 0 by grind)
  have o2 := ord_nlt hv num0 (show 0 ≤ v by grind)
  have o3 : (FloatKind.f32.format.order a a != some .eq) = false := by have := ord_eq hv hv; simp only [bne, this]; rfl
  have B1 := Lib.hid h1
  have B2 := Lib.hid h2
  clear hv h1 h2 nx
  go_enter Try.func74, Try.ntmps74
  go_wp2_with (go_at_call 51; refine (HF.out _).mono ?_; rintro e w' ⟨rfl, rfl⟩)
  refine (HN.out _).mono ?_
  rintro e w' ⟨r, rfl, ⟨y, n, ny, hl⟩, rfl⟩
  obtain ⟨s, z, hs, nz, hz⟩ := log32_step ny hl B1.out B2.out
  have R := Lib.hid (And.intro nz hz)
  clear ny hl nz hz
  go_wp2
  go_ret
  exact ⟨s, rfl, ⟨z, n, R.out.1, R.out.2⟩, rfl⟩

/-- a smooth count: of n steps of at most so many -/
def SmoothPost (n most : Nat) (w : World) (e : Ending) (w' : World) : Prop :=
  ∃ r, e = .returned (.tuple #[.float .f32 r, .bool true]) ∧ (∃ x, NumK .f32 r x ∧ 0 ≤ x ∧ x ≤ (n : Rat) + 3 ∧ (n : Rat) ≤ x + 3) ∧ (n = most → r = floatOfInt .f32 n) ∧ Below w.heap.size w w'

theorem smoothOf_most (k : Int) (hk0 : 0 ≤ k) (hk : k ≤ 3) (ca cb a b most : Nat) (hm : most ≤ 128) (la lb : Nat) (w : World) (hc : SmallC ca cb) (hz : SmallC a b)
    (h : escF k ca cb most 0 a b = some (most, la, lb)) :
    Calls Try.prog 32 #[.agg #[.int .i64 k, .complex .f32 ca cb], .complex .f32 a b, .int .i64 most] w (SmoothPost most most w) := by
  have H1 := Lib.hid (fun w => areEscape_yes k hk0 hk ca cb a b most (by omega) (by omega) w hc hz)
  have H2 := Lib.hid (fun w => escape_any k hk0 hk ca cb a b most hm _ w h)
  clear hc hz h
  go_enter Try.func32, Try.ntmps32
  go_wp2_with fail
  refine (H1.out _).mono ?_
  rintro e w1 ⟨rfl, hb⟩
  obtain ⟨hc, hf⟩ := bcell hb
  have hz : w.heap.size + 1 ≤ w1.heap.size := by have := hb.size; simp at this; omega
  go_wp2_with fail
  refine (H2.out _).mono ?_
  rintro e w2 ⟨rfl, hb2⟩
  clear hc hf
  go_wp2
  go_ret2
  have hn := ofInt_num (k := .f32) (most : Int) (by omega)
  refine ⟨_, rfl, ⟨_, hn, ?_, ?_, ?_⟩, fun _ => rfl, (((Below.refl _ _).alloc (Nat.le_refl _) _).trans (hb.mono (by simp))).trans (hb2.mono (by omega))⟩
  · exact Rat.natCast_nonneg
  · have : (((most : Nat) : Int) : Rat) = (most : Rat) := rfl
    grind
  · have : (((most : Nat) : Int) : Rat) = (most : Rat) := rfl
    grind

theorem smoothOf_less (k : Int) (hk0 : 0 ≤ k) (hk : k ≤ 3) (ca cb a b most n : Nat) (hm : most ≤ 128) (hn : n < most) (la lb p : Nat) (P : Rat) (w : World) (hc : SmallC ca cb) (hz : SmallC a b)
    (h : escF k ca cb most 0 a b = some (n, la, lb)) (hp : powerF la lb = some p) (np : NumK .f32 p P) (p1 : 4 < P) (p2 : P ≤ 256) :
    Calls Try.prog 32 #[.agg #[.int .i64 k, .complex .f32 ca cb], .complex .f32 a b, .int .i64 most] w (SmoothPost n most w) := by
  have H1 := Lib.hid (fun w => areEscape_yes k hk0 hk ca cb a b most (by omega) (by omega) w hc hz)
  have H2 := Lib.hid (fun w => escape_any k hk0 hk ca cb a b most hm _ w h)
  have H3 := Lib.hid (fun w => powerOf_any la lb p w hp)
  have H4 := Lib.hid (fun w => logNumber_any p P np (by grind) (by grind) w)
  have PP := Lib.hid (And.intro p1 p2)
  have hne : ((n : Int) == (most : Int)) = false := by simp; omega
  have hn128 := Lib.hid (show n ≤ 128 by omega)
  clear hc hz h hp np p1 p2
  by_cases hk1 : k = 1
  all_goals first
    | (have ht : (k == 1) = true := by simpa using hk1)
    | (have ht : (k == 1) = false := by simpa using hk1)
  all_goals (clear hk1; go_enter Try.func32, Try.ntmps32)
  all_goals go_wp2_with fail
  all_goals (refine (H1.out _).mono ?_; rintro e w1 ⟨rfl, hb⟩)
  all_goals (obtain ⟨hc, hf⟩ := bcell hb)
  all_goals (have hz : w.heap.size + 1 ≤ w1.heap.size := by have := hb.size; simp at this; omega)
  all_goals go_wp2_with fail
  all_goals (refine (H2.out _).mono ?_; rintro e w2 ⟨rfl, hb2⟩)
  all_goals (have hx := (bcell hb2).1)
  all_goals (have hcc : w2.cell? ⟨w.heap.size, 0, none⟩ = some (.int .i64 k) := by rw [hx _ _ (by omega), hc _ _ (by simp)]; simp)
  all_goals clear hc hf hx
  all_goals (obtain ⟨r1, hr1, n1⟩ := n1_step n hn128.out)
  all_goals (have N1 := Lib.hid n1; clear n1)
  all_goals go_wp2_with fail
  all_goals (refine (H3.out _).mono ?_; rintro e w' ⟨rfl, rfl⟩)
  all_goals go_wp2_with fail
  all_goals (refine (H4.out _).mono ?_; rintro e w' ⟨l1, rfl, ⟨y1, m1, ny1, hl1⟩, rfl⟩)
  all_goals (obtain ⟨h, hz', hh, nh, z1, z2⟩ := smooth_half ny1 hl1 PP.out.1 PP.out.2)
  all_goals (have H5 := Lib.hid (fun w => logNumber_any h hz' nh (by grind) (by grind) w))
  all_goals (have K := Lib.hid (And.intro z1 z2))
  all_goals (clear ny1 hl1 nh z1 z2)
  all_goals go_wp2_with fail
  all_goals (refine (H5.out _).mono ?_; rintro e w' ⟨l2, rfl, ⟨y2, m2, ny2, hl2⟩, rfl⟩)
  all_goals (have K2 := Lib.hid (And.intro ny2 hl2))
  all_goals (clear ny2 hl2)
  all_goals go_wp2_with fail
  · refine (logNumber_any _ 3 three32 (by decide +kernel) (by decide +kernel) _).mono ?_
    rintro e w' ⟨l3, rfl, ⟨y3, m3, ny3, hl3⟩, rfl⟩
    obtain ⟨r2, r3, q, f2, f3, nq, q1, q2⟩ := smooth_end K2.out.1 K2.out.2 K.out.1 K.out.2 ny3 hl3 (Or.inr rfl) N1.out hn128.out
    have NQ := Lib.hid (And.intro nq (And.intro q1 q2))
    have HB : Hid (Below w.heap.size w w2) := (((Below.refl _ _).alloc (Nat.le_refl _) _).trans (hb.mono (by simp))).trans (hb2.mono (by omega))
    have hn0 : (0 : Rat) ≤ (n : Rat) := Rat.natCast_nonneg
    by_cases hq : q < 0
    · have ho := ord_lt nq num0 hq
      have HQ := Lib.hid hq
      have HN0 := Lib.hid hn0
      clear ny3 hl3 nq q1 q2 hq hn0
      go_wp2
      go_ret2
      exact ⟨0, rfl, ⟨0, num0, by grind, by have := HN0.out; grind, by have := NQ.out.2.2; have := HQ.out; grind⟩, fun h => absurd h (by omega), HB.out⟩
    · have ho := ord_nlt nq num0 (show (0 : Rat) ≤ q by grind)
      have HI := Lib.hid (fun w => ifNumber_yes r3 w ⟨q, nq⟩)
      have HQ := Lib.hid hq
      clear ny3 hl3 nq q1 q2 hq hn0
      go_wp2_with (go_at_call 73; refine (HI.out _).mono ?_; rintro e w' ⟨rfl, rfl⟩)
      go_ret2
      exact ⟨r3, rfl, ⟨q, NQ.out.1, by have := HQ.out; grind, NQ.out.2.1, NQ.out.2.2⟩, fun h => absurd h (by omega), HB.out⟩
  · refine (logNumber_any _ 2 two32 (by decide +kernel) (by decide +kernel) _).mono ?_
    rintro e w' ⟨l3, rfl, ⟨y3, m3, ny3, hl3⟩, rfl⟩
    obtain ⟨r2, r3, q, f2, f3, nq, q1, q2⟩ := smooth_end K2.out.1 K2.out.2 K.out.1 K.out.2 ny3 hl3 (Or.inl rfl) N1.out hn128.out
    have NQ := Lib.hid (And.intro nq (And.intro q1 q2))
    have HB : Hid (Below w.heap.size w w2) := (((Below.refl _ _).alloc (Nat.le_refl _) _).trans (hb.mono (by simp))).trans (hb2.mono (by omega))
    have hn0 : (0 : Rat) ≤ (n : Rat) := Rat.natCast_nonneg
    by_cases hq : q < 0
    · have ho := ord_lt nq num0 hq
      have HQ := Lib.hid hq
      have HN0 := Lib.hid hn0
      clear ny3 hl3 nq q1 q2 hq hn0
      go_wp2
      go_ret2
      exact ⟨0, rfl, ⟨0, num0, by grind, by have := HN0.out; grind, by have := NQ.out.2.2; have := HQ.out; grind⟩, fun h => absurd h (by omega), HB.out⟩
    · have ho := ord_nlt nq num0 (show (0 : Rat) ≤ q by grind)
      have HI := Lib.hid (fun w => ifNumber_yes r3 w ⟨q, nq⟩)
      have HQ := Lib.hid hq
      clear ny3 hl3 nq q1 q2 hq hn0
      go_wp2_with (go_at_call 73; refine (HI.out _).mono ?_; rintro e w' ⟨rfl, rfl⟩)
      go_ret2
      exact ⟨r3, rfl, ⟨q, NQ.out.1, by have := HQ.out; grind, NQ.out.2.1, NQ.out.2.2⟩, fun h => absurd h (by omega), HB.out⟩
end
end Go.Proofs.Ytjhicedblobjfaa
