/- Walks: numbers that an input chooses; gaps. -/
import Derived.Test.YtjhicedblobjfaaMB
import Derived.Test.YtjhicedblobjfaaA9
namespace Go.Proofs.Ytjhicedblobjfaa
open Go.RowKit

def AtPost (n : Int) (w : World) (e : Ending) (w' : World) : Prop := ∃ r : Int, e = .returned (.int .i64 r) ∧ 0 ≤ r ∧ r < n ∧ w = w'

theorem max_num (a b : Nat) (x y : Rat) (ha : NumK .f64 a x) (hb : NumK .f64 b y) :
    ∃ r, (r = a ∨ r = b) ∧ ∀ (ts : Array TypeId) (t : TypeId) (w : World), (Builtin.max_ ts t #[.float .f64 a, .float .f64 b]).run Try.prog w = .ok (.float .f64 r) w := by
  have ho := order_num ha hb
  have key : ∀ r, (Builtin.max2 (.float .f64 a) (.float .f64 b)) = pure (.float .f64 r) → ∀ (ts : Array TypeId) (t : TypeId) (w : World), (Builtin.max_ ts t #[.float .f64 a, .float .f64 b]).run Try.prog w = .ok (.float .f64 r) w := by
    intro r hr ts t w
    simp [Builtin.max_, hr]
  by_cases h1 : x < y
  · refine ⟨b, Or.inr rfl, key _ ?_⟩
    rw [if_pos h1] at ho
    simp [Builtin.max2, ho]
  · by_cases h2 : x = y
    · rw [if_neg h1, if_pos h2] at ho
      by_cases h3 : (FloatKind.f64.decode a).neg
      · exact ⟨b, Or.inr rfl, key _ (by simp [Builtin.max2, ho, h3])⟩
      · exact ⟨a, Or.inl rfl, key _ (by simp [Builtin.max2, ho, h3])⟩
    · rw [if_neg h1, if_neg h2] at ho
      exact ⟨a, Or.inl rfl, key _ (by simp [Builtin.max2, ho])⟩

section
set_option maxHeartbeats 800000
set_option maxRecDepth 100000

theorem r8At_any (k n : Int) (hk0 : 0 ≤ k) (hk : k ≤ 47) (hn0 : 2 ≤ n) (hn : n ≤ 200) (p m : Nat) (v : Value) (w : World) (hc : CodeIs w p v m) :
    Calls Try.prog 8 #[v, .int .i64 k, .int .i64 n] w (AtPost n w) := by
  obtain ⟨hm, a, cap, rfl, hj⟩ := hc
  by_cases hlt : k < m
  · obtain ⟨b, off, c, rfl, hb, c0, c1, hcell⟩ := hj k.toNat (by omega)
    clear hj
    obtain ⟨i, rfl⟩ : ∃ i : Nat, k = i := ⟨k.toNat, by omega⟩
    simp only [Int.toNat_natCast] at hcell
    go_enter Try.func8, Try.ntmps8
    go_wp2
    go_ret
    exact ⟨_, rfl, Int.emod_nonneg _ (by omega), Int.emod_lt_of_pos _ (by omega), rfl⟩
  · clear hj
    go_enter Try.func8, Try.ntmps8
    go_wp2
    go_ret
    exact ⟨_, rfl, by omega, by omega, rfl⟩

theorem r8Long_no (a b : Option Addr) (m n c d : Nat) (w : World) (hm : m ≤ 48) (hn : n ≤ 48) :
    Calls Try.prog 7 #[.slice a m c, .slice b n d] w fun e w' => e = .returned (.bool false) ∧ w = w' := by
  have h1 : decide ((48 : Int) < (m : Int)) = false := by simp; omega
  have h2 : decide ((48 : Int) < (n : Int)) = false := by simp; omega
  go_enter Try.func7, Try.ntmps7
  go_wp2
  go_ret
  exact ⟨rfl, rfl⟩
theorem r8Long_yes (a b : Option Addr) (m n c d : Nat) (w : World) (h : 48 < m ∨ 48 < n) :
    Calls Try.prog 7 #[.slice a m c, .slice b n d] w fun e w' => e = .returned (.bool true) ∧ w = w' := by
  by_cases hm : 48 < m
  · have h1 : decide ((48 : Int) < (m : Int)) = true := by simp; omega
    clear h
    go_enter Try.func7, Try.ntmps7
    go_wp2
    go_ret
    exact ⟨rfl, rfl⟩
  · have h1 : decide ((48 : Int) < (m : Int)) = false := by simp; omega
    have h2 : decide ((48 : Int) < (n : Int)) = true := by simp; omega
    clear h
    go_enter Try.func7, Try.ntmps7
    go_wp2
    go_ret
    exact ⟨rfl, rfl⟩

theorem r8Gap_any (a b : Nat) (x y B : Rat) (ha : NumK .f64 a x) (hb : NumK .f64 b y) (h1 : x - y ≤ B) (h2 : y - x ≤ B) (hB : Rep FloatKind.f64.format B) (hB2 : B ≤ 1000) (w : World) :
    Calls Try.prog 25 #[.float .f64 a, .float .f64 b] w (RetF .f64 (fun r => ∃ z, NumK .f64 r z ∧ z ≤ B) w) := by
  have t1 := lt_top64 (x := x - y) (by grind) (by grind)
  have t2 := lt_top64 (x := y - x) (by grind) (by grind)
  obtain ⟨r, z, e1, n1, k1⟩ := sub_num ha hb t1.1 t1.2
  obtain ⟨s, u, e2, n2, k2⟩ := sub_num hb ha t2.1 t2.2
  have z1 := near_le k1 hB h1
  have z2 := near_le k2 hB h2
  obtain ⟨q, hq, hr⟩ := max_num r s z u n1 n2
  have R : Hid (∃ z, NumK .f64 q z ∧ z ≤ B) := by
    rcases hq with rfl | rfl
    · exact ⟨z, n1, z1⟩
    · exact ⟨u, n2, z2⟩
  clear ha hb h1 h2 hB n1 n2 k1 k2 z1 z2 hq t1 t2
  go_enter Try.func25, Try.ntmps25
  go_wp2
  go_ret
  exact ⟨q, rfl, R.out, rfl⟩
end
end Go.Proofs.Ytjhicedblobjfaa
