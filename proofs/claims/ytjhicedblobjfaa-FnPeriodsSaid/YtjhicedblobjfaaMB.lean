/- Walks: what the laws draw from bytes. · Walks: points and numbers that the laws draw. -/
import Derived.Test.YtjhicedblobjfaaMA
import Derived.Test.YtjhicedblobjfaaF5
namespace Go.Proofs.Ytjhicedblobjfaa
open Go.RowKit

/-- the bytes that a law reads: n of them, in blocks below p -/
def CodeIs (w : World) (p : Nat) (v : Value) (n : Nat) : Prop :=
  n ≤ 48 ∧ ∃ a cap, v = .slice a n cap ∧ ∀ j, j < n → ∃ (b off : Nat) (c : Int), a = some ⟨b, off, none⟩ ∧ b < p ∧ 0 ≤ c ∧ c ≤ 255 ∧ w.cell? ⟨b, off + j, none⟩ = some (.int .u8 c)
/-- the block of a source -/
def Src (w : World) (p : Nat) (c : Value) (at' : Nat) : Prop :=
  ∃ seed, w.cell? ⟨p, 0, none⟩ = some c ∧ w.cell? ⟨p, 1, none⟩ = some (.int .i64 at') ∧ w.cell? ⟨p, 2, none⟩ = some (.int .u64 seed) ∧ w.frozen? ⟨p, 1, none⟩ = false ∧ w.frozen? ⟨p, 2, none⟩ = false
def NextPost (p : Nat) (c : Value) (at' : Nat) (w : World) (e : Ending) (w' : World) : Prop :=
  ∃ r : Int, e = .returned (.int .i64 r) ∧ 0 ≤ r ∧ r ≤ 255 ∧ Src w' p c (at' + 1) ∧ Below p w w'

theorem and255 (x : Int) : 0 ≤ bits BinOp.and IntKind.u64 x 255 ∧ bits BinOp.and IntKind.u64 x 255 ≤ 255 := by
  have h : (BitVec.ofInt 64 x &&& BitVec.ofInt 64 255).toNat ≤ 255 := by
    rw [BitVec.toNat_and]
    have e : (BitVec.ofInt 64 255).toNat = 255 := by decide
    rw [e]; exact Nat.and_le_right
  show 0 ≤ IntKind.u64.wrap ((BitVec.ofInt 64 x &&& BitVec.ofInt 64 255).toNat : Int) ∧ IntKind.u64.wrap ((BitVec.ofInt 64 x &&& BitVec.ofInt 64 255).toNat : Int) ≤ 255
  rw [IntWalk.u64_in _ (by omega)]
  omega

theorem src_after (w : World) (p : Nat) (c : Value) (at' : Nat) (seed sd : Int) (q r : Nat) 
    (h0 : w.cell? ⟨p, 0, none⟩ = some c) (h1 : w.cell? ⟨p, 1, none⟩ = some (.int .i64 at')) (h2 : w.cell? ⟨p, 2, none⟩ = some (.int .u64 seed)) (f1 : w.frozen? ⟨p, 1, none⟩ = false) (f2 : w.frozen? ⟨p, 2, none⟩ = false) :
    Src ((((w.drewN q).setCell ⟨p, 1, none⟩ (.int .i64 ((at' : Int) + 1))).setCell ⟨p, 2, none⟩ (.int .u64 sd)).drewN r) p c (at' + 1) ∧
    Below p w ((((w.drewN q).setCell ⟨p, 1, none⟩ (.int .i64 ((at' : Int) + 1))).setCell ⟨p, 2, none⟩ (.int .u64 sd)).drewN r) := by
  constructor
  · refine ⟨sd, ?_, ?_, ?_, ?_, ?_⟩
    all_goals go_simp
  · exact below_drewN' (Below.setCell (p := ⟨p, 2, none⟩) (Below.setCell (p := ⟨p, 1, none⟩) (below_drewN' (Below.refl _ _) q) (Nat.le_refl _) _) (Nat.le_refl _) _) r

section
set_option maxHeartbeats 800000
set_option maxRecDepth 100000

/-- no byte is left: the next one comes of the seed -/
theorem next_end (p : Nat) (v : Option Addr) (len cap at' : Nat) (seed : Int) (w : World) (hlen : len ≤ 48) (hat : at' ≤ 100) (hge : len ≤ at') 
    (h0 : w.cell? ⟨p, 0, none⟩ = some (.slice v len cap)) (h1 : w.cell? ⟨p, 1, none⟩ = some (.int .i64 at')) (h2 : w.cell? ⟨p, 2, none⟩ = some (.int .u64 seed))
    (f1 : w.frozen? ⟨p, 1, none⟩ = false) (f2 : w.frozen? ⟨p, 2, none⟩ = false) :
    Calls Try.prog 112 #[.pointer (some ⟨p, 0, none⟩)] w (NextPost p (.slice v len cap) at' w) := by
  go_enter Try.func112, Try.ntmps112
  go_wp2
  go_quiet (fail)
  go_wp2
  generalize IntKind.u64.wrap (IntKind.u64.wrap (IntKind.u64.wrap (seed * 6364136223846793005)) + 1442695040888963407) = sd
  go_quiet (fail)
  go_wp2
  have ha := and255 (sd / 1099511627776)
  go_ret
  exact ⟨_, rfl, by simp only [wrap64]; omega, by simp only [wrap64]; omega, (src_after w p _ at' seed sd _ _ h0 h1 h2 f1 f2).1, (src_after w p _ at' seed sd _ _ h0 h1 h2 f1 f2).2⟩

theorem next_byte (p b off len cap at' : Nat) (c : Int) (seed : Int) (w : World) (hlen : len ≤ 48) (hlt : at' < len) (c0 : 0 ≤ c) (c1 : c ≤ 255) (hb : w.cell? ⟨b, off + at', none⟩ = some (.int .u8 c))
    (h0 : w.cell? ⟨p, 0, none⟩ = some (.slice (some ⟨b, off, none⟩) len cap)) (h1 : w.cell? ⟨p, 1, none⟩ = some (.int .i64 at')) (h2 : w.cell? ⟨p, 2, none⟩ = some (.int .u64 seed))
    (f1 : w.frozen? ⟨p, 1, none⟩ = false) (f2 : w.frozen? ⟨p, 2, none⟩ = false) :
    Calls Try.prog 112 #[.pointer (some ⟨p, 0, none⟩)] w (NextPost p (.slice (some ⟨b, off, none⟩) len cap) at' w) := by
  go_enter Try.func112, Try.ntmps112
  go_wp2
  go_quiet (fail)
  go_wp2
  go_quiet (fail)
  go_wp2
  generalize IntKind.u64.wrap (IntKind.u64.wrap (IntKind.u64.wrap (seed * 6364136223846793005) + c) + 1442695040888963407) = sd
  go_quiet (fail)
  go_wp2
  go_ret
  exact ⟨_, rfl, c0, c1, (src_after w p _ at' seed sd _ _ h0 h1 h2 f1 f2).1, (src_after w p _ at' seed sd _ _ h0 h1 h2 f1 f2).2⟩

theorem next_any (p n at' : Nat) (v : Value) (w : World) (hat : at' ≤ 100) (hc : CodeIs w p v n) (hs : Src w p v at') :
    Calls Try.prog 112 #[.pointer (some ⟨p, 0, none⟩)] w (NextPost p v at' w) := by
  obtain ⟨hn, a, cap, rfl, hj⟩ := hc
  obtain ⟨seed, h0, h1, h2, f1, f2⟩ := hs
  by_cases hlt : at' < n
  · obtain ⟨b, off, c, rfl, hb, c0, c1, hcell⟩ := hj at' hlt
    exact next_byte p b off n cap at' c seed w hn hlt c0 c1 hcell h0 h1 h2 f1 f2
  · exact next_end p a n cap at' seed w hn hat (by omega) h0 h1 h2 f1 f2
end
end Go.Proofs.Ytjhicedblobjfaa

namespace Go.Proofs.Ytjhicedblobjfaa
open Go.RowKit

theorem codeIs_below {w w' : World} {p : Nat} {v : Value} {n : Nat} (h : CodeIs w p v n) (hb : Below p w w') : CodeIs w' p v n := by
  obtain ⟨hn, a, cap, hv, hj⟩ := h
  refine ⟨hn, a, cap, hv, fun j hjn => ?_⟩
  obtain ⟨b, off, c, ha, hbp, c0, c1, hc⟩ := hj j hjn
  exact ⟨b, off, c, ha, hbp, c0, c1, by rw [(bcell hb).1 _ _ hbp]; exact hc⟩
theorem codeIs_mono {w : World} {p q : Nat} {v : Value} {n : Nat} (h : CodeIs w p v n) (hpq : p ≤ q) : CodeIs w q v n := by
  obtain ⟨hn, a, cap, hv, hj⟩ := h
  refine ⟨hn, a, cap, hv, fun j hjn => ?_⟩
  obtain ⟨b, off, c, ha, hbp, h⟩ := hj j hjn
  exact ⟨b, off, c, ha, by omega, h⟩

def PickPost (n : Int) (p : Nat) (c : Value) (at' : Nat) (w : World) (e : Ending) (w' : World) : Prop :=
  ∃ r : Int, e = .returned (.int .i64 r) ∧ 0 ≤ r ∧ r < n ∧ Src w' p c (at' + 1) ∧ Below p w w'

theorem eighth32 : NumK .f32 1090519040 8 := num_lit .f32 1090519040 false 8388608 (-20) 8 (by kernel_rfl) (by kernel_rfl)
theorem rep_eighth (k : Int) (h : k.natAbs ≤ 1000) : Rep FloatKind.f32.format ((k : Rat) / 8) := by
  have hv : sg (decide (k < 0)) ((k.natAbs : Rat) * 2 ^ (-3 : Int)) = (k : Rat) / 8 := by
    rw [natAbs_sg _ _ _ (fun _ => rfl)]
    have e : (2 : Rat) ^ (-3 : Int) = 1 / 8 := by decide +kernel
    rw [e]; grind
  exact ⟨_, _, _, hv.symm, Nat.le_trans h (by decide), by decide⟩
theorem lat_step (k : Int) (h : k.natAbs ≤ 1000) : ∃ b, fdiv .f32 (floatOfInt .f32 k) 1090519040 = some b ∧ NumK .f32 b ((k : Rat) / 8) := by
  have hn := ofInt_num (k := .f32) k (by omega)
  have c1 : ((1000 : Int) : Rat) = 1000 := rfl
  have c2 : ((-1000 : Int) : Rat) = -1000 := rfl
  have g1 := Rat.intCast_le_intCast.2 (show k ≤ 1000 by omega)
  have g2 := Rat.intCast_le_intCast.2 (show -1000 ≤ k by omega)
  have t := lt_top32' (x := (k : Rat) / 8) (div_le (by decide +kernel) (by grind)) (le_div (by decide +kernel) (by grind))
  obtain ⟨r, z, e, n, j⟩ := div_num hn eighth32 (by decide +kernel) t.1 t.2
  have := near_exact j (rep_eighth k h)
  subst this
  exact ⟨r, e, n⟩

/-- a number of eighths from -2 to 2 -/
def Lat (b : Nat) (k : Int) : Prop := -16 ≤ k ∧ k ≤ 16 ∧ NumK .f32 b ((k : Rat) / 8)
def PointPost (w : World) (e : Ending) (w' : World) : Prop :=
  ∃ (b c : Nat), e = .returned (.complex .f32 b c) ∧ (∃ i j, Lat b i ∧ Lat c j) ∧ Below w.heap.size w w'

section
set_option maxHeartbeats 800000
set_option maxRecDepth 100000

theorem pick_any (m : Int) (hm : 2 ≤ m) (hm2 : m ≤ 200) (p n at' : Nat) (v : Value) (w : World) (hat : at' ≤ 100) (hc : CodeIs w p v n) (hs : Src w p v at') :
    Calls Try.prog 75 #[.pointer (some ⟨p, 0, none⟩), .int .i64 m] w (PickPost m p v at' w) := by
  have H := Lib.hid (next_any p n at' v w hat hc hs)
  clear hc hs
  go_enter Try.func75, Try.ntmps75
  go_wp2_with fail
  refine H.out.mono ?_
  rintro e w' ⟨r, rfl, r0, r1, hs, hb⟩
  have R := Lib.hid (And.intro hs hb)
  clear hs hb
  go_wp2
  go_ret
  exact ⟨_, rfl, Int.emod_nonneg _ (by omega), Int.emod_lt_of_pos _ (by omega), R.out.1, R.out.2⟩

theorem drawPoint_any (p n at' : Nat) (v : Value) (w : World) (hat : at' ≤ 50) (hc : CodeIs w p v n) (hs : Src w p v at') :
    Calls Try.prog 46 #[.pointer (some ⟨p, 0, none⟩)] w fun e w' => ∃ (b c : Nat), e = .returned (.complex .f32 b c) ∧ (∃ i j, Lat b i ∧ Lat c j) ∧ Src w' p v (at' + 1 + 1) ∧ Below p w w' := by
  have H := Lib.hid (pick_any 33 (by decide) (by decide) p n at' v w (by omega) hc hs)
  have HC := Lib.hid hc
  clear hc hs
  go_enter Try.func46, Try.ntmps46
  go_wp2_with fail
  refine H.out.mono ?_
  rintro e w1 ⟨r, rfl, r0, r1, hs, hb⟩
  obtain ⟨bx, hx, nx⟩ := lat_step (r - 16) (by omega)
  have X := Lib.hid (show Lat bx (r - 16) from ⟨by omega, by omega, nx⟩)
  have H2 := Lib.hid (pick_any 33 (by decide) (by decide) p n (at' + 1) v w1 (by omega) (codeIs_below HC.out hb) hs)
  have HB := Lib.hid hb
  clear hs hb nx
  go_wp2_with fail
  refine H2.out.mono ?_
  rintro e w2 ⟨s, rfl, s0, s1, hs, hb⟩
  obtain ⟨bY, hy, ny⟩ := lat_step (s - 16) (by omega)
  have Y := Lib.hid (show Lat bY (s - 16) from ⟨by omega, by omega, ny⟩)
  have R := Lib.hid (And.intro hs hb)
  clear hs hb ny
  go_wp2
  go_ret
  exact ⟨bx, bY, rfl, ⟨_, _, X.out, Y.out⟩, R.out.1, HB.out.trans R.out.2⟩

theorem r8Point_any (n : Nat) (v : Value) (w : World) (hc : CodeIs w w.heap.size v n) :
    Calls Try.prog 9 #[v] w (PointPost w) := by
  have C0 := Lib.hid hc
  have hv : ∃ a cap, v = .slice a n cap := by obtain ⟨_, a, cap, hv, _⟩ := hc; exact ⟨a, cap, hv⟩
  obtain ⟨a, cap, rfl⟩ := hv
  clear hc
  have hb0 : Below w.heap.size w (w.alloc (.cells #[.slice a n cap, .int .i64 0, .int .u64 0] 111)) := (Below.refl _ _).alloc (Nat.le_refl _) _
  have hs : Src (w.alloc (.cells #[.slice a n cap, .int .i64 0, .int .u64 0] 111)) w.heap.size (.slice a n cap) 0 := by
    refine ⟨0, ?_, ?_, ?_, ?_, ?_⟩
    all_goals go_simp
  have H := Lib.hid (drawPoint_any w.heap.size n 0 (.slice a n cap) _ (by omega) (codeIs_below C0.out hb0) hs)
  have HB := Lib.hid hb0
  clear hs hb0
  go_enter Try.func9, Try.ntmps9
  go_wp2_with (go_at_call 45; go_in)
  refine H.out.mono ?_
  rintro e w2 ⟨b, c, rfl, hij, hs, hb⟩
  go_wp2
  go_ret
  exact ⟨b, c, rfl, hij, HB.out.trans hb⟩
end
end Go.Proofs.Ytjhicedblobjfaa
