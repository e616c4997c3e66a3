/- The law FnPeriods: for every two codes of bytes that come in, the law returns true, and each reads as it read. No condition. -/
import Derived.Test.YtjhicedblobjfaaRows
import Derived.WalkKit
import Derived.ProofKit
import Derived.OpenShut
import Derived.Test.YtjhicedblobjfaaD1
import Derived.Test.YtjhicedblobjfaaC4
namespace Go.Proofs.Ytjhicedblobjfaa.fnPeriods
open Go.ChangeShapes Go.WideShapes Go.ChangeAt Go.RowKit

set_option maxRecDepth 100000 in
/-- the walk, of codes of any length -/
theorem walk (m n c d : Nat) (a b : Option Addr) (w : World) (hm : m ≤ 48 → CodeIs w w.heap.size (.slice a m c) m) (hn : n ≤ 48 → CodeIs w w.heap.size (.slice b n d) n) :
    Calls Try.prog 3 #[.slice a m c, .slice b n d] w fun e w' => e = .returned (.bool true) ∧ Below w.heap.size w w' := by
  by_cases hlong : 48 < m ∨ 48 < n
  · have H := Lib.hid (fun w => r8Long_yes a b m n c d w hlong)
    clear hm hn hlong
    go_enter Try.func3, Try.ntmps3
    go_wp2_with (go_at_call 7; refine (H.out _).mono ?_; rintro e w' ⟨rfl, rfl⟩)
    go_ret
    exact ⟨rfl, Below.refl _ _⟩
  · exact fnPeriods_any m n (.slice a m c) (.slice b n d) w (hm (by omega)) (hn (by omega))

set_option maxRecDepth 100000 in
theorem lifted (os : Os) (started : os.Started) (H : Type) (enc : TypeId × Value → H) :
    ReturnsInHanded {} Try.checked os 3 .any (Rows.fnPeriodsSpec.pre6 enc Try.prog Try.f3 Rows.fnPeriodsRow.domain false) (Rows.fnPeriodsSpec.post enc Try.prog Try.f3 false true false false) := by
  refine returnsInHanded_of_change (C := Try.checked) ownNone started (by kernel_rfl) Try.func3
    (ChangeSpec.witness6 (enc := enc) (C := Try.checked) false ⟨#[], #[.slice none 0 0, .slice none 0 0], []⟩ 8 (by kernel_rfl) (by kernel_rfl) (by kernel_rfl) (by kernel_rfl)) ?_
  intro W base args ds gs before hval0 hW hcnd _
  have hval : ∀ (j : Nat) t v, Try.f3.params[j]? = some t → args[j]? = some v → Value.okWide Try.prog W .any base t v := hval0
  have hW' := hW
  obtain ⟨p, q, hA0, hV, rfl, hfz, hnd⟩ := hW
  have hA : DataW.TrodAll enc Try.prog W 0 (fun _ => true) true Try.f3.params.toList args.toList ds p := hA0
  rw [Try.params3] at hA hval
  obtain ⟨v0, vs0, d0, ds0, p0, q0, hargs, rfl, rfl, h0, r0⟩ := trodAll_cons hA
  obtain ⟨v1, vs1, d1, ds1, p1, q1, rfl, rfl, rfl, h1, r1⟩ := trodAll_cons r0
  obtain ⟨rfl, rfl, rfl⟩ := trodAll_nil r1
  obtain rfl : args = #[v0, v1] := by cases args; simp_all
  obtain ⟨rfl, rfl⟩ := trodVars_none hV
  clear hA0 hval0
  simp only [List.append_nil] at hW'
  have hlt : ∀ x ∈ p0 ++ p1, x.block < W.heap.size := fun x hx => by simpa using hW'.lt x hx
  have hlt0 : ∀ x ∈ p0, x.block < W.heap.size := fun x hx => hlt x (List.mem_append.2 (Or.inl hx))
  have hlt1 : ∀ x ∈ p1, x.block < W.heap.size := fun x hx => hlt x (List.mem_append.2 (Or.inr hx))
  obtain ⟨a, m, c, rfl, hm⟩ := open_code (hval 0 22 v0 rfl rfl) h0 hlt0
  obtain ⟨b, n, d, rfl, hn⟩ := open_code (hval 1 22 v1 rfl rfl) h1 hlt1
  refine (walk m n c d a b W hm hn).mono fun e W' ⟨he, hb⟩ => ?_
  subst he
  exact ⟨_, rfl, ⟨_, _, _, [], _, [], hW', trodAll_cons_mk (shut_bool Try.underlying4 _) trodAll_mk0,
    trodAll_cons_mk (Below.trod laidOutAll (by kernel_rfl) (of_decide_eq_true (by kernel_rfl)) h0 hb hlt0) (trodAll_cons_mk (Below.trod laidOutAll (by kernel_rfl) (of_decide_eq_true (by kernel_rfl)) h1 hb hlt1) trodAll_mk0),
    rfl, hb.frame _, fun h => by cases h⟩⟩

theorem over : Rows.fnPeriodsRow.holds Try.pinned (OpenSpec.ofChange Rows.fnPeriodsSpec) :=
  OpenClaim.holds_of_wide 3 Try.f3 rfl rfl rfl rfl rfl rfl rfl ⟨rfl, rfl, rfl, rfl, rfl⟩ rfl rfl rfl rfl rfl (by kernel_rfl) Try.func3 (by kernel_rfl)
    (of_decide_eq_true (by kernel_rfl)) (by unfold Func.isWrapper; first | (rw [if_pos (by decide +kernel)]; kernel_rfl) | (rw [if_neg (by decide +kernel)]; exact ⟨rfl, rfl⟩))
    (fun os started H enc _ => lifted os started H enc)

/-- the statement -/
theorem proved : Rows.FnPeriodsSaid := over
#print axioms proved
end Go.Proofs.Ytjhicedblobjfaa.fnPeriods
