/- Go's own sums of complex numbers; lengths of differences. -/
import Derived.Test.YtjhicedblobjfaaF9
import Derived.Test.YtjhicedblobjfaaA9
import Derived.Test.YtjhicedblobjfaaB4
import Derived.Laws.ComplexArith
namespace Go.Proofs.Ytjhicedblobjfaa
open Go.RowKit Ieee

def zsem (op : BinOp) (t : TypeId) (a b c d : Nat) : Option (Nat × Nat) → Sem Value
  | some r => pure (.complex .f32 r.1 r.2)
  | none => binOp op t (.complex .f32 a b) (.complex .f32 c d)
@[go_sem] theorem zsem_some (op : BinOp) (t : TypeId) (a b c d : Nat) (r : Nat × Nat) : zsem op t a b c d (some r) = pure (.complex .f32 r.1 r.2) := rfl
theorem floatBits_sub (k : FloatKind) (a b : Nat) : floatBits .sub k a b = fsub k a b := by unfold floatBits fsub; rfl
theorem floatBits_add (k : FloatKind) (a b : Nat) : floatBits .add k a b = fadd k a b := by unfold floatBits fadd; rfl
@[go_sem] theorem run_zsub (t : TypeId) (a b c d : Nat) (w : World) :
    (binOp .sub t (.complex .f32 a b) (.complex .f32 c d)).run Try.prog w = (zsem .sub t a b c d (subF a b c d)).run Try.prog w := by
  cases h : subF a b c d with
  | none => rfl
  | some r =>
    rw [zsem_some]
    refine run_complex_sum w .sub (Or.inr rfl) t .f32 a b c d r.1 r.2 ?_
    unfold cSumBits
    rw [floatBits_sub, floatBits_sub]
    exact h
@[go_sem] theorem run_zadd (t : TypeId) (a b c d : Nat) (w : World) :
    (binOp .add t (.complex .f32 a b) (.complex .f32 c d)).run Try.prog w = (zsem .add t a b c d (addF a b c d)).run Try.prog w := by
  cases h : addF a b c d with
  | none => rfl
  | some r =>
    rw [zsem_some]
    refine run_complex_sum w .add (Or.inl rfl) t .f32 a b c d r.1 r.2 ?_
    unfold cSumBits
    rw [floatBits_add, floatBits_add]
    exact h
@[go_sem] theorem run_store_complex {P : Program} {w : World} {a : Addr} {m : Mode} (k : FloatKind) (x y : Nat) : (store a (.complex k x y) m).run P w = stored P w a (.complex k x y) m := run_store P w a _ m rfl
theorem near_gt {B C : Rat} {u x : Nat × Nat} {cst : Nat} (h : NearBy B u x) (hc : NumK .f64 cst C) (hB : B ≤ C) :
    ∃ e l W, subF u.1 u.2 x.1 x.2 = some e ∧ longF e.1 e.2 = some l ∧ widen l = some W ∧ (FloatKind.f64.format.order W cst == some .gt) = false := by
  obtain ⟨e, l, v, h1, h2, h3, h4⟩ := h
  obtain ⟨W, h5, h6, _⟩ := widen_num h3
  exact ⟨e, l, W, h1, h2, h5, ord_ngt h6 hc (Rat.le_trans h4 hB)⟩
theorem thou : (1 / 1000 : Rat) ≤ 1152921504606847 / 1152921504606846976 := by decide +kernel
theorem hundr : (1 / 100 : Rat) ≤ 5764607523034235 / 576460752303423488 := by decide +kernel

/-- what the walk asks of the numbers that rest, as contracts -/
theorem rest_calls {a b : Nat} (h : LatC a b) : ∃ r1 r2 r3 r4 u1 u2 t1 t2 s1 s2 e1 e2 f1 f2 g1 g2 le lf lg We Wf Wg : Nat,
    (∀ w, Calls Try.prog 35 #[.complex .f32 a b] w fun e w' => e = .returned (.tuple #[.complex .f32 r1 r2, .complex .f32 r3 r4, .bool true]) ∧ w = w') ∧
    (∀ w, Calls Try.prog 34 #[.agg #[.int .i64 0, .complex .f32 a b], .complex .f32 r1 r2] w fun e w' => e = .returned (.tuple #[.complex .f32 u1 u2, .bool true]) ∧ Below w.heap.size w w') ∧
    (∀ w, Calls Try.prog 34 #[.agg #[.int .i64 0, .complex .f32 a b], .complex .f32 r3 r4] w fun e w' => e = .returned (.tuple #[.complex .f32 t1 t2, .bool true]) ∧ Below w.heap.size w w') ∧
    subF u1 u2 r1 r2 = some (e1, e2) ∧ subF t1 t2 r3 r4 = some (f1, f2) ∧ addF r1 r2 r3 r4 = some (s1, s2) ∧ subF s1 s2 1065353216 0 = some (g1, g2) ∧
    (∀ w, Calls Try.prog 12 #[.complex .f32 e1 e2] w fun e w' => e = .returned (.float .f32 le) ∧ w = w') ∧
    (∀ w, Calls Try.prog 12 #[.complex .f32 f1 f2] w fun e w' => e = .returned (.float .f32 lf) ∧ w = w') ∧
    (∀ w, Calls Try.prog 12 #[.complex .f32 g1 g2] w fun e w' => e = .returned (.float .f32 lg) ∧ w = w') ∧
    widen le = some We ∧ widen lf = some Wf ∧ widen lg = some Wg ∧
    (FloatKind.f64.format.order We 4562254508917369340 == some .gt) = false ∧ (FloatKind.f64.format.order Wf 4562254508917369340 == some .gt) = false ∧ (FloatKind.f64.format.order Wg 4562254508917369340 == some .gt) = false := by
  obtain ⟨⟨⟨r1, r2⟩, ⟨r3, r4⟩⟩, hr⟩ := rest_lat h
  have sc := latC_small h
  obtain ⟨⟨u1, u2⟩, ou, fu1, fu2, nu⟩ := hr.oncex
  obtain ⟨⟨t1, t2⟩, ot, ft1, ft2, nt⟩ := hr.oncey
  obtain ⟨⟨s1, s2⟩, os, ns⟩ := hr.sum
  obtain ⟨⟨e1, e2⟩, le, We, hu1, hu2, hu3, hu4⟩ := near_gt nu l64_thousandth thou
  obtain ⟨⟨f1, f2⟩, lf, Wf, ht1, ht2, ht3, ht4⟩ := near_gt nt l64_thousandth thou
  obtain ⟨⟨g1, g2⟩, lg, Wg, hs1, hs2, hs3, hs4⟩ := near_gt ns l64_thousandth thou
  have fx := hr.smallx
  have fy := hr.smally
  refine ⟨r1, r2, r3, r4, u1, u2, t1, t2, s1, s2, e1, e2, f1, f2, g1, g2, le, lf, lg, We, Wf, Wg, ?_, ?_, ?_, hu1, ht1, os, hs1, fun w => longOf_any e1 e2 le w hu2, fun w => longOf_any f1 f2 lf w ht2, fun w => longOf_any g1 g2 lg w hs2, hu3, ht3, hs3, hu4, ht4, hs4⟩
  · intro w
    have f1 : Fin32 r1 ∧ Fin32 r2 := by obtain ⟨x, y, hxy, _⟩ := fx; exact cnum_fin hxy
    have f2 : Fin32 r3 ∧ Fin32 r4 := by obtain ⟨x, y, hxy, _⟩ := fy; exact cnum_fin hxy
    exact restsOf_any a b ((r1, r2), (r3, r4)) w sc hr.rests f1 f2
  · exact fun w => mapOnce_any 0 (by decide) (by decide) a b r1 r2 (u1, u2) w sc fx ou fu1 fu2
  · exact fun w => mapOnce_any 0 (by decide) (by decide) a b r3 r4 (t1, t2) w sc fy ot ft1 ft2

theorem heart_calls {a b : Nat} (h : LatC a b) : ∃ t : Bool, (∀ w, Calls Try.prog 20 #[.complex .f32 a b] w fun e w' => e = .returned (.bool t) ∧ w = w') ∧
    (t = true → ∀ w, Calls Try.prog 16 #[.agg #[.int .i64 0, .complex .f32 a b], .complex .f32 0 0, .int .i64 40] w fun e w' => e = .returned (.tuple #[.int .i64 40, .bool true]) ∧ Below w.heap.size w w') := by
  obtain ⟨t, h1, h2⟩ := heart_lat h
  have sc := latC_small h
  have s0 : SmallC 0 0 := ⟨0, 0, ⟨num0, num0⟩, ⟨by decide +kernel, by decide +kernel⟩, ⟨by decide +kernel, by decide +kernel⟩⟩
  refine ⟨t, fun w => inHeart_any a b t w sc h1, fun ht w => ?_⟩
  obtain ⟨u, v, h3⟩ := h2 ht
  exact escapeOf_any 0 (by decide) (by decide) a b 0 0 40 (by decide) (40, u, v) w sc s0 h3
theorem walk_calls {ca cb a b : Nat} (hc : LatC ca cb) (hz : LatC a b) : ∃ L, WalkGood ca cb (a, b) 5 L ∧
    (∀ w, Calls Try.prog 36 #[.complex .f32 ca cb, .complex .f32 a b, .int .i64 5, .int .i64 77] w (WalkPost 5 L w)) ∧
    (∀ w, Calls Try.prog 36 #[.complex .f32 ca cb, .complex .f32 a b, .int .i64 0, .int .i64 77] w (WalkPost 0 [] w)) := by
  obtain ⟨L, G⟩ := walk_lat hc hz 5
  refine ⟨L, G, fun w => ?_, fun w => ?_⟩
  · exact inverseWalk_any ca cb a b 5 (by decide) L w (latC_small hc) (latC_small hz) G.back
  · exact inverseWalk_any ca cb a b 0 (by decide) [] w (latC_small hc) (latC_small hz) ⟨rfl, fun j hj => absurd hj (by omega), fun j hj => absurd hj (by omega)⟩

theorem step_calls {ca cb : Nat} {z : Nat × Nat} {L : List (Nat × Nat)} {n : Nat} (hc : LatC ca cb) (G : WalkGood ca cb z n L) (j : Nat) (hj : j < n) (y p : Nat × Nat) (hy : y = L.getD j (0, 0)) (hp : p = prevN z L j) :
    ∃ u1 u2 e1 e2 l W : Nat, (∀ w, Calls Try.prog 34 #[.agg #[.int .i64 0, .complex .f32 ca cb], .complex .f32 y.1 y.2] w fun e w' => e = .returned (.tuple #[.complex .f32 u1 u2, .bool true]) ∧ Below w.heap.size w w') ∧
      subF u1 u2 p.1 p.2 = some (e1, e2) ∧ (∀ w, Calls Try.prog 12 #[.complex .f32 e1 e2] w fun e w' => e = .returned (.float .f32 l) ∧ w = w') ∧ widen l = some W ∧ (FloatKind.f64.format.order W 4576918229304087675 == some .gt) = false := by
  have B := G.good j hj
  rw [← hy, ← hp] at B
  obtain ⟨⟨u1, u2⟩, ou, f1, f2, nu⟩ := B.once
  obtain ⟨⟨e1, e2⟩, l, W, h1, h2, h3, h4⟩ := near_gt nu l64_hundredth hundr
  exact ⟨u1, u2, e1, e2, l, W, fun w => mapOnce_any 0 (by decide) (by decide) ca cb y.1 y.2 (u1, u2) w (latC_small hc) B.small ou f1 f2, h1, fun w => longOf_any e1 e2 l w h2, h3, h4⟩
end Go.Proofs.Ytjhicedblobjfaa
