/- Walks: what the laws draw from bytes. -/
import Derived.Test.YtjhicedblobjfaaA6
import Derived.Test.YtjhicedblobjfaaF5
namespace Go.Proofs.Ytjhicedblobjfaa
open Go.RowKit

/-- the bytes that a law reads: n of them, in blocks below p -/
def CodeIs (w : World) (p : Nat) (v : Value) (n : Nat) : Prop :=
  n ≤ 48 ∧ ∃ a cap, v = .slice a n cap ∧ ∀ j, j < n → ∃ (b off : Nat) (c : Int), a = some ⟨b, off, none⟩ ∧ b < p ∧ 0 ≤ c ∧ c ≤ 255 ∧ w.cell? ⟨b, off + j, none⟩ = some (.int .u8 c)
/-- the block of a source -/
def Src (w : World) (p : Nat) (c : Value) (at' : Nat) : Prop :=
  ∃ seed, w.cell? ⟨p, 0, none⟩ = some c ∧ w.cell? ⟨p, 1, none⟩ = some (.int .i64 at') ∧ w.cell? ⟨p, 2, none⟩ = some (.int .u64 seed) ∧ w.frozen? ⟨p, 1, none⟩ = false ∧ w.frozen? ⟨p, 2, none⟩ = false
def NextPost (p : Nat) (c : Value) (at' : Nat) (w : World) (e : Ending) (w' : World) : Prop :=
  ∃ r : Int, e = .returned (.int .i64 r) ∧ 0 ≤ r ∧ r ≤ 255 ∧ Src w' p c (at' + 1) ∧ Below p w w'

theorem and255 (x : Int) : 0 ≤ bits BinOp.and IntKind.u64 x 255 ∧ bits BinOp.and IntKind.u64 x 255 ≤ 255 := by
  have h : (BitVec.ofInt 64 x &&& BitVec.ofInt 64 255).toNat ≤ 255 := by
    rw [BitVec.toNat_and]
    have e : (BitVec.ofInt 64 255).toNat = 255 := by decide
    rw [e]; exact Nat.and_le_right
  show 0 ≤ IntKind.u64.wrap ((BitVec.ofInt 64 x &&& BitVec.ofInt 64 255).toNat : Int) ∧ IntKind.u64.wrap ((BitVec.ofInt 64 x &&& BitVec.ofInt 64 255).toNat : Int) ≤ 255
  rw [IntWalk.u64_in _ (by omega)]
  omega

theorem src_after (w : World) (p : Nat) (c : Value) (at' : Nat) (seed sd : Int) (q r : Nat) 
    (h0 : w.cell? ⟨p, 0, none⟩ = some c) (h1 : w.cell? ⟨p, 1, none⟩ = some (.int .i64 at')) (h2 : w.cell? ⟨p, 2, none⟩ = some (.int .u64 seed)) (f1 : w.frozen? ⟨p, 1, none⟩ = false) (f2 : w.frozen? ⟨p, 2, none⟩ = false) :
    Src ((((w.drewN q).setCell ⟨p, 1, none⟩ (.int .i64 ((at' : Int) + 1))).setCell ⟨p, 2, none⟩ (.int .u64 sd)).drewN r) p c (at' + 1) ∧
    Below p w ((((w.drewN q).setCell ⟨p, 1, none⟩ (.int .i64 ((at' : Int) + 1))).setCell ⟨p, 2, none⟩ (.int .u64 sd)).drewN r) := by
  constructor
  · refine ⟨sd, ?_, ?_, ?_, ?_, ?_⟩
    all_goals go_simp
  · exact below_drewN' (Below.setCell (p := ⟨p, 2, none⟩) (Below.setCell (p := ⟨p, 1, none⟩) (below_drewN' (Below.refl _ _) q) (Nat.le_refl _) _) (Nat.le_refl _) _) r

section
set_option maxHeartbeats 800000
set_option maxRecDepth 100000

/-- no byte is left: the next one comes of the seed -/
theorem next_end (p : Nat) (v : Option Addr) (len cap at' : Nat) (seed : Int) (w : World) (hlen : len ≤ 48) (hat : at' ≤ 100) (hge : len ≤ at') 
    (h0 : w.cell? ⟨p, 0, none⟩ = some (.slice v len cap)) (h1 : w.cell? ⟨p, 1, none⟩ = some (.int .i64 at')) (h2 : w.cell? ⟨p, 2, none⟩ = some (.int .u64 seed))
    (f1 : w.frozen? ⟨p, 1, none⟩ = false) (f2 : w.frozen? ⟨p, 2, none⟩ = false) :
    Calls Try.prog 112 #[.pointer (some ⟨p, 0, none⟩)] w (NextPost p (.slice v len cap) at' w) := by
  go_enter Try.func112, Try.ntmps112
  go_wp2
  go_quiet (fail)
  go_wp2
  generalize IntKind.u64.wrap (IntKind.u64.wrap (IntKind.u64.wrap (seed * 6364136223846793005)) + 1442695040888963407) = sd
  go_quiet (fail)
  go_wp2
  have ha := and255 (sd / 1099511627776)
  go_ret
  exact ⟨_, rfl, by simp only [wrap64]; omega, by simp only [wrap64]; omega, (src_after w p _ at' seed sd _ _ h0 h1 h2 f1 f2).1, (src_after w p _ at' seed sd _ _ h0 h1 h2 f1 f2).2⟩

theorem next_byte (p b off len cap at' : Nat) (c : Int) (seed : Int) (w : World) (hlen : len ≤ 48) (hlt : at' < len) (c0 : 0 ≤ c) (c1 : c ≤ 255) (hb : w.cell? ⟨b, off + at', none⟩ = some (.int .u8 c))
    (h0 : w.cell? ⟨p, 0, none⟩ = some (.slice (some ⟨b, off, none⟩) len cap)) (h1 : w.cell? ⟨p, 1, none⟩ = some (.int .i64 at')) (h2 : w.cell? ⟨p, 2, none⟩ = some (.int .u64 seed))
    (f1 : w.frozen? ⟨p, 1, none⟩ = false) (f2 : w.frozen? ⟨p, 2, none⟩ = false) :
    Calls Try.prog 112 #[.pointer (some ⟨p, 0, none⟩)] w (NextPost p (.slice (some ⟨b, off, none⟩) len cap) at' w) := by
  go_enter Try.func112, Try.ntmps112
  go_wp2
  go_quiet (fail)
  go_wp2
  go_quiet (fail)
  go_wp2
  generalize IntKind.u64.wrap (IntKind.u64.wrap (IntKind.u64.wrap (seed * 6364136223846793005) + c) + 1442695040888963407) = sd
  go_quiet (fail)
  go_wp2
  go_ret
  exact ⟨_, rfl, c0, c1, (src_after w p _ at' seed sd _ _ h0 h1 h2 f1 f2).1, (src_after w p _ at' seed sd _ _ h0 h1 h2 f1 f2).2⟩

theorem next_any (p n at' : Nat) (v : Value) (w : World) (hat : at' ≤ 100) (hc : CodeIs w p v n) (hs : Src w p v at') :
    Calls Try.prog 112 #[.pointer (some ⟨p, 0, none⟩)] w (NextPost p v at' w) := by
  obtain ⟨hn, a, cap, rfl, hj⟩ := hc
  obtain ⟨seed, h0, h1, h2, f1, f2⟩ := hs
  by_cases hlt : at' < n
  · obtain ⟨b, off, c, rfl, hb, c0, c1, hcell⟩ := hj at' hlt
    exact next_byte p b off n cap at' c seed w hn hlt c0 c1 hcell h0 h1 h2 f1 f2
  · exact next_end p a n cap at' seed w hn hat (by omega) h0 h1 h2 f1 f2
end
end Go.Proofs.Ytjhicedblobjfaa
