/- A code of bytes that came in, as the walks ask for it. -/
import Derived.Test.YtjhicedblobjfaaMB
import Derived.ProofKit
import Derived.OpenShut
import Derived.ChangeSlices
import Derived.Carry
namespace Go.Proofs.Ytjhicedblobjfaa
open Go.ChangeShapes Go.WideShapes Go.ChangeAt Go.RowKit

theorem ownNone : ownKnob Try.prog.godebug = none := by kernel_rfl
theorem laidOutAll : laidOutB Try.prog = true := by kernel_rfl
theorem cellsByte : Try.prog.cellsOf 5 = 1 := by kernel_rfl

set_option maxRecDepth 100000 in
theorem open_code {H : Type} {enc : TypeId × Value → H} {W : World} {base : Nat} {v : Value} {d : DataW H} {p : List MemPlace} (hv : Value.okWide Try.prog W .any base 22 v)
    (h : DataW.Trod enc Try.prog W 0 (fun _ => true) true 22 v d p) (hlt : ∀ x ∈ p, x.block < W.heap.size) :
    ∃ a n cap, v = .slice a n cap ∧ (n ≤ 48 → CodeIs W W.heap.size v n) := by
  obtain ⟨fuel, hf⟩ := h
  obtain ⟨a0, len, cap, rfl⟩ := okWide_slice Try.underlying22 hv
  refine ⟨a0, len, cap, rfl, fun h48 => ⟨h48, a0, cap, rfl, ?_⟩⟩
  rcases open_ints Try.underlying22 Try.underlying5 cellsByte hf with ⟨hcs, hx⟩ | ⟨a, len', cap', zs, hcs, _, hl, hm, hz, hx, hcell, hwz⟩
  · simp [Value.cells] at hcs
    obtain ⟨rfl, rfl, rfl⟩ := hcs
    exact fun j hj => absurd hj (by omega)
  · simp [Value.cells] at hcs
    obtain ⟨rfl, rfl, rfl⟩ := hcs
    simp only [Prod.mk.injEq] at hx
    obtain ⟨rfl, rfl⟩ := hx
    simp only [if_true] at hz
    intro j hj
    obtain ⟨b, off, spot⟩ := a
    have hspot : spot = none := by simpa [Addr.add] using World.cell?_spot (hcell 0 (by omega))
    subst hspot
    have hb : b < W.heap.size := hlt (.cell b (off + j)) (MemPlace.mem_row.2 ⟨j, by omega, by simp⟩)
    have hmem : zs.getD j 0 ∈ zs := by
      have hjz : j < zs.length := by omega
      simp [List.getD, List.getElem?_eq_getElem hjz]
    have hw := hwz _ hmem
    have hw' := bounds_u8 hw
    have hc := hcell j (by omega)
    rw [add_plain] at hc
    exact ⟨b, off, _, rfl, hb, hw'.1, hw'.2, hc⟩
end Go.Proofs.Ytjhicedblobjfaa
