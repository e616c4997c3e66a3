/- What is no number: operations with it, and the walk's laws for them. · Walks at what is no number; the step from nothing. -/
import Derived.Test.YtjhicedblobjfaaA3
import Derived.Test.YtjhicedblobjfaaA13
import Derived.Test.YtjhicedblobjfaaMG
namespace Go.Proofs.Ytjhicedblobjfaa
open Go.RowKit Ieee

/-- the bits are no number -/
def NanB (k : FloatKind) (b : Nat) : Prop := ∃ s t, k.format.read b = .nan s t

theorem nan32 {b : Nat} (h : 2139095040 < b % 2147483648) : NanB .f32 b := by
  refine ⟨b / 2147483648 % 2 == 1, b % 2147483648 - 2139095040, ?_⟩
  have e1 : FloatKind.f32.format.binade = 8388608 := by decide
  have e2 : FloatKind.f32.format.infRung = 2139095040 := by decide
  have e3 : FloatKind.f32.format.signWeight = 2147483648 := by decide
  unfold Format.read
  simp only [e1, e2, e3]
  rw [if_neg (by omega), if_neg (by omega), if_neg (by omega)]
theorem nan64 {b : Nat} (h : 9218868437227405312 < b % 9223372036854775808) : NanB .f64 b := by
  refine ⟨b / 9223372036854775808 % 2 == 1, b % 9223372036854775808 - 9218868437227405312, ?_⟩
  have e1 : FloatKind.f64.format.binade = 4503599627370496 := by decide
  have e2 : FloatKind.f64.format.infRung = 9218868437227405312 := by decide
  have e3 : FloatKind.f64.format.signWeight = 9223372036854775808 := by decide
  unfold Format.read
  simp only [e1, e2, e3]
  rw [if_neg (by omega), if_neg (by omega), if_neg (by omega)]
theorem nan64_inv {b : Nat} (h : NanB .f64 b) : 9218868437227405312 < b % 9223372036854775808 := by
  obtain ⟨s, t, h⟩ := h
  have e1 : FloatKind.f64.format.binade = 4503599627370496 := by decide
  have e2 : FloatKind.f64.format.infRung = 9218868437227405312 := by decide
  have e3 : FloatKind.f64.format.signWeight = 9223372036854775808 := by decide
  unfold Format.read at h
  simp only [e1, e2, e3] at h
  split at h
  · cases h
  · split at h
    · cases h
    · split at h
      · cases h
      · omega

/-- the bits that the tape gives where an operation has no result -/
def nanQ (k : FloatKind) (x y : Nat) (w : World) : Nat := (Question.nanBits k x y).cut (w.tape w.drawn (.nanBits k x y))
def nanC (k : FloatKind) (b : Nat) (w : World) : Nat := (Question.nanConv k b).cut (w.tape w.drawn (.nanConv k b))
theorem cut32 (t : Nat) : NanB .f32 ((t % 2) * 2 ^ 31 + 0x7f800000 + 1 + (t / 2) % (2 ^ 23 - 1)) := by
  have h := Nat.mod_lt (t / 2) (show 0 < 2 ^ 23 - 1 by decide)
  generalize (t / 2) % (2 ^ 23 - 1) = r at *
  have h2 : t % 2 = 0 ∨ t % 2 = 1 := by omega
  apply nan32
  rcases h2 with h2 | h2 <;> rw [h2] <;> omega
theorem cut64 (t : Nat) : NanB .f64 ((t % 2) * 2 ^ 63 + 0x7ff0000000000000 + 1 + (t / 2) % (2 ^ 52 - 1)) ∧ (t % 2) * 2 ^ 63 + 0x7ff0000000000000 + 1 + (t / 2) % (2 ^ 52 - 1) < 2 ^ 64 := by
  have h := Nat.mod_lt (t / 2) (show 0 < 2 ^ 52 - 1 by decide)
  generalize (t / 2) % (2 ^ 52 - 1) = r at *
  have h2 : t % 2 = 0 ∨ t % 2 = 1 := by omega
  refine ⟨?_, ?_⟩
  · apply nan64
    rcases h2 with h2 | h2 <;> rw [h2] <;> omega
  · rcases h2 with h2 | h2 <;> rw [h2] <;> omega
theorem nanQ_nan (k : FloatKind) (x y : Nat) (w : World) : NanB k (nanQ k x y w) := by
  cases k
  · exact cut32 _
  · exact (cut64 _).1
theorem nanC_nan (k : FloatKind) (b : Nat) (w : World) : NanB k (nanC k b w) := by
  cases k
  · exact cut32 _
  · exact (cut64 _).1
theorem nanC_lt (b : Nat) (w : World) : nanC .f64 b w < 2 ^ 64 := (cut64 _).2

section
variable {k : FloatKind} {a b : Nat}
theorem nan_add (h : NanB k a) : fadd k a b = none := by obtain ⟨s, t, h⟩ := h; simp [fadd, Format.add, h, Datum.sum]
theorem nan_sub (h : NanB k a) : fsub k a b = none := by obtain ⟨s, t, h⟩ := h; simp [fsub, Format.sub, h, Datum.sum]
theorem nan_mul (h : NanB k a) : fmul k a b = none := by obtain ⟨s, t, h⟩ := h; simp [fmul, Format.mul, h, Datum.product]
theorem nan_sqrt (h : NanB .f64 a) : fsqrt a = none := by obtain ⟨s, t, h⟩ := h; simp [fsqrt, Format.sqrt, h, Datum.root]
theorem nan_order (h : NanB k a) : k.format.order a b = none := by obtain ⟨s, t, h⟩ := h; simp [Format.order, h, Datum.order]
theorem nan_abs (h : NanB .f64 a) : NanB .f64 (absBits a) := by
  have := nan64_inv h
  apply nan64
  unfold absBits
  have e : a % 2 ^ 63 % 9223372036854775808 = a % 9223372036854775808 := by omega
  rw [e]; exact this
end
theorem nan_widen {a : Nat} (h : NanB .f32 a) : widen a = none := by
  obtain ⟨s, t, h⟩ := h
  have h' : FloatKind.f32.decode a = .nan s t := h
  simp [widen, floatToFloatBits, h']
theorem nan_narrow {a : Nat} (h : NanB .f64 a) : narrow a = none := by
  obtain ⟨s, t, h⟩ := h
  have h' : FloatKind.f64.decode a = .nan s t := h
  simp [narrow, floatToFloatBits, h']

@[go_sem] theorem run_fsem_none (P : Program) (k : FloatKind) (x y : Nat) (w : World) : (fsem k x y none).run P w = .ok (.float k (nanQ k x y w)) w.drew := by
  simp [fsem, nanQ, choose, Sem.run, Question.forced]
theorem run_csem_nan (P : Program) {s k : FloatKind} {b : Nat} (h : NanB s b) (hk : s ≠ k) (w : World) : (csem s b k none).run P w = .ok (.float k (nanC k b w)) w.drew := by
  obtain ⟨u, t, h⟩ := h
  have h' : s.decode b = .nan u t := h
  unfold csem Conv.floatToFloat
  rw [if_neg hk, h']
  simp [nanC, choose, Sem.run, Question.forced]
@[go_sem] theorem run_csem_nanQ (P : Program) (x y : Nat) (v w : World) : (csem .f64 (nanQ .f64 x y v) .f32 none).run P w = .ok (.float .f32 (nanC .f32 (nanQ .f64 x y v) w)) w.drew := run_csem_nan P (nanQ_nan _ _ _ _) (by decide) w
@[go_sem] theorem fmul_nanC (b y : Nat) (w : World) : fmul .f64 (nanC .f64 b w) y = none := nan_mul (nanC_nan _ _ _)
@[go_sem] theorem fadd_nanQ (x z y : Nat) (w : World) : fadd .f64 (nanQ .f64 x z w) y = none := nan_add (nanQ_nan _ _ _ _)
@[go_sem] theorem narrow_nanQ (x y : Nat) (w : World) : narrow (nanQ .f64 x y w) = none := nan_narrow (nanQ_nan _ _ _ _)
end Go.Proofs.Ytjhicedblobjfaa

namespace Go.Proofs.Ytjhicedblobjfaa
open Go.RowKit Ieee

/-- the world but for what was drawn -/
def Drew (w w' : World) : Prop := ∃ n, w' = w.drewN n
theorem Drew.refl (w : World) : Drew w w := ⟨0, rfl⟩
theorem Drew.one {w w' : World} (h : Drew w w') : Drew w w'.drew := by obtain ⟨n, rfl⟩ := h; exact ⟨n + 1, rfl⟩
theorem Drew.trans {a b c : World} (h : Drew a b) (k : Drew b c) : Drew a c := by
  obtain ⟨n, rfl⟩ := h
  obtain ⟨m, rfl⟩ := k
  exact ⟨n + m, World.drewN_drewN _ _ _⟩
theorem Drew.below {w w' : World} (h : Drew w w') (B : Nat) : Below B w w' := by obtain ⟨n, rfl⟩ := h; exact ⟨rfl, rfl, rfl, Nat.le_refl _, fun _ _ => rfl⟩

section
set_option maxHeartbeats 400000
set_option maxRecDepth 100000

def RetNanC (w : World) (e : Ending) (w' : World) : Prop := ∃ r i, e = .returned (.complex .f32 r i) ∧ NanB .f32 r ∧ NanB .f32 i ∧ Drew w w'
def RetNan (k : FloatKind) (w : World) (e : Ending) (w' : World) : Prop := ∃ r, e = .returned (.float k r) ∧ NanB k r ∧ Drew w w'

theorem subtract_nan (a b c d : Nat) (w : World) (ha : NanB .f32 a) (hb : NanB .f32 b) :
    Calls Try.prog 53 #[.complex .f32 a b, .complex .f32 c d] w (RetNanC w) := by
  have e1 := nan_sub (b := c) ha
  have e2 := nan_sub (b := d) hb
  clear ha hb
  go_enter Try.func53, Try.ntmps53
  go_wp2
  go_ret
  exact ⟨_, _, rfl, nanQ_nan _ _ _ _, nanQ_nan _ _ _ _, ((Drew.refl w).one).one⟩

theorem power_nan (a b : Nat) (w : World) (ha : NanB .f32 a) (hb : NanB .f32 b) :
    Calls Try.prog 56 #[.complex .f32 a b] w (RetNan .f64 w) := by
  have e1 := nan_widen ha
  have e2 := nan_widen hb
  have k1 := fun w => run_csem_nan Try.prog (k := .f64) ha (by decide) w
  have k2 := fun w => run_csem_nan Try.prog (k := .f64) hb (by decide) w
  clear ha hb
  go_enter Try.func56, Try.ntmps56
  go_wp2_with (go_at_call 102; go_in)
  go_ret
  exact ⟨_, rfl, nanQ_nan _ _ _ _, (Drew.refl w).one.one.one.one.one⟩

theorem run_sqrt_nan (x : Nat) (h : NanB .f64 x) (w : World) : (callFunc 101 #[.float .f64 x]).run Try.prog w = .ok (.value (.float .f64 (nanQ .f64 x x w))) w.drew := by
  rw [run_callFunc_extern Try.func101 (by kernel_rfl) (by kernel_rfl) (by kernel_rfl) (e := Extern.MathSqrt.sqrt) (by kernel_rfl)]
  have h' : FloatKind.f64.format.sqrt x = none := nan_sqrt h
  change (Sem.run Try.prog (match FloatKind.f64.format.sqrt x with
    | some r => pure (Value.float .f64 r)
    | none => do pure (Value.float .f64 (← choose (.nanBits .f64 x x)))) w).andThen _ = _
  rw [h']
  simp [nanQ, choose, Sem.run, Question.forced]

theorem sqrt_nan (x : Nat) (w : World) (h : NanB .f64 x) :
    Calls Try.prog 55 #[.float .f64 x] w (RetNan .f64 w) := by
  have hr := fun w => run_sqrt_nan x h w
  clear h
  go_enter Try.func55, Try.ntmps55
  go_wp2
  go_ret
  exact ⟨_, rfl, nanQ_nan _ _ _ _, (Drew.refl w).one⟩

theorem longOf_nan (a b : Nat) (w : World) (ha : NanB .f32 a) (hb : NanB .f32 b) :
    Calls Try.prog 12 #[.complex .f32 a b] w (RetNan .f32 w) := by
  have H := Lib.hid (fun w => power_nan a b w ha hb)
  clear ha hb
  go_enter Try.func12, Try.ntmps12
  go_wp2_with fail
  refine (H.out _).mono ?_
  rintro e w1 ⟨p, rfl, hp, hd⟩
  have H2 := Lib.hid (fun w => sqrt_nan p w hp)
  have HD := Lib.hid hd
  clear hp hd
  go_wp2_with fail
  refine (H2.out _).mono ?_
  rintro e w2 ⟨s, rfl, hs, hd2⟩
  have e1 := nan_narrow hs
  have k1 := fun w => run_csem_nan Try.prog (k := .f32) hs (by decide) w
  have HD2 := Lib.hid (HD.out.trans hd2)
  clear hs hd2
  go_wp2
  go_ret
  exact ⟨_, rfl, nanC_nan _ _ _, HD2.out.one⟩

theorem size_nan (a : Nat) (w : World) (ha : NanB .f32 a) :
    Calls Try.prog 99 #[.float .f32 a] w (RetNan .f32 w) := by
  have e1 := nan_widen ha
  have k1 := fun w => run_csem_nan Try.prog (k := .f64) ha (by decide) w
  clear ha
  go_enter Try.func99, Try.ntmps99
  go_wp2_with fail
  refine (abs_any _ (nanC_lt _ _) _).mono ?_
  rintro e w1 ⟨rfl, rfl⟩
  have hn := nan_abs (nanC_nan .f64 a w)
  have e2 := nan_narrow hn
  have k2 := fun w => run_csem_nan Try.prog (k := .f32) hn (by decide) w
  clear hn
  go_wp2
  go_ret
  exact ⟨_, rfl, nanC_nan _ _ _, (Drew.refl w).one.one⟩

theorem isSmall_nan (a b : Nat) (w : World) (ha : NanB .f32 a) :
    Calls Try.prog 48 #[.complex .f32 a b] w fun e w' => e = .returned (.bool false) ∧ Drew w w' := by
  have H := Lib.hid (fun w => size_nan a w ha)
  clear ha
  go_enter Try.func48, Try.ntmps48
  go_wp2_with fail
  refine (H.out _).mono ?_
  rintro e w1 ⟨r, rfl, hr, hd⟩
  have ho : FloatKind.f32.format.order r 1148846080 = none := nan_order hr
  have HD := Lib.hid hd
  clear hr hd
  go_wp2
  go_ret
  exact ⟨rfl, HD.out⟩

/-! ### the step from nothing -/
theorem div_zero {a b : Nat} (ha : NumK .f64 a 0) (hb : NumK .f64 b 0) : fdiv .f64 a b = none := by
  obtain ⟨s, m, i, ra, ea⟩ := ha
  obtain ⟨t, n, j, rb, eb⟩ := hb
  have z : ∀ (s : Bool) (m : Nat) (i : Int), (0 : Rat) = sg s ((m : Rat) * 2 ^ i) → m = 0 := by
    intro s m i h
    apply Classical.byContradiction; intro hm
    have hp := Rat.mul_pos (Rat.natCast_pos.2 (Nat.pos_of_ne_zero hm)) (p2_pos i)
    cases s <;> simp only [sg, Bool.false_eq_true, if_false, if_true] at h <;> grind
  have hm := z _ _ _ ea
  have hn := z _ _ _ eb
  subst hm; subst hn
  simp [fdiv, Format.div, ra, rb, Datum.quotient]

theorem quotientOf_nan (a b c d : Nat) (x y : Rat) (w : World) (h : CNum a b x y) (bx : Ab x 22) (bY : Ab y 22) (hz : ZeroC (c, d)) :
    Calls Try.prog 87 #[.complex .f32 a b, .complex .f32 c d] w (RetNanC w) := by
  obtain ⟨wa, ea, na, _⟩ := widen_num h.1
  obtain ⟨wb, eb, nb, _⟩ := widen_num h.2
  obtain ⟨wc, ec, nc, _⟩ := widen_num hz.1
  obtain ⟨wd, ed, nd, _⟩ := widen_num hz.2
  have nd' := neg_num nd
  have z22 : Ab (0 : Rat) 22 := by constructor <;> decide +kernel
  have z22' : Ab (-(0 : Rat)) 22 := by constructor <;> decide +kernel
  obtain ⟨r, m, n, e, n1, n2, k1, k2⟩ := timesF_num na nb nc nd' (num_rep h.1) (num_rep h.2) (num_rep hz.1) (rep_neg (num_rep hz.2)) bx bY z22 z22' (cst30 (by decide +kernel))
  have e1 : x * 0 - y * -0 = 0 := by grind
  have e2 : x * -0 + y * 0 = 0 := by grind
  rw [e1] at k1
  rw [e2] at k2
  have h1 := near_zero (rep0 .f64) k1
  have h2 := near_zero (rep0 .f64) k2
  subst h1; subst h2
  obtain ⟨p, q, ep, np, kp, _⟩ := powF_num hz z22 z22 (cst30 (by decide +kernel))
  have e3 : (0 : Rat) * 0 + 0 * 0 = 0 := by grind
  rw [e3] at kp
  have h3 := near_zero (rep0 .f64) kp
  subst h3
  have d1 := div_zero n1 np
  have d2 := div_zero n2 np
  have K1 := Lib.hid (fun w => parts_any a b wa wb w ea eb)
  have K2 := Lib.hid (fun w => parts_any c d wc wd w ec ed)
  have K3 := Lib.hid (fun w => times_any wa wb wc (Op.negFloat .f64 wd) r w e)
  have K4 := Lib.hid (fun w => power_any c d p w ep)
  clear h bx bY hz ea na eb nb ec nc ed nd nd' z22 z22' n1 n2 k1 k2 e ep np kp
  go_enter Try.func87, Try.ntmps87
  go_wp2_with fail
  refine (K1.out _).mono ?_
  rintro e w' ⟨rfl, rfl⟩
  go_wp2_with fail
  refine (K2.out _).mono ?_
  rintro e w' ⟨rfl, rfl⟩
  go_wp2_with fail
  refine (K3.out _).mono ?_
  rintro e w' ⟨rfl, rfl⟩
  go_wp2_with fail
  refine (K4.out _).mono ?_
  rintro e w' ⟨rfl, rfl⟩
  go_wp2_with fail
  go_ret
  exact ⟨_, _, rfl, nanC_nan _ _ _, nanC_nan _ _ _, (Drew.refl _).one.one.one.one⟩

theorem itF_zero : ∀ (m : Nat) {p z : Nat × Nat}, ZeroC p → ZeroC z → ∃ q, itF m p z.1 z.2 = some q ∧ ZeroC q
  | 0, p, _, hp, _ => ⟨p, rfl, hp⟩
  | m + 1, p, z, hp, hz => by
    have z22 : Ab (0 : Rat) 22 := by constructor <;> decide +kernel
    obtain ⟨r, e, hr⟩ := mul_zero hp hz z22 z22
    obtain ⟨q, e2, hq⟩ := itF_zero m hr hz
    exact ⟨q, by simp [itF, e, e2], hq⟩

theorem scale_zero {z : Nat × Nat} {c : Nat} {v : Rat} (hz : ZeroC z) (hc : NumK .f32 c v) : ∃ r, scaleF z.1 z.2 c = some r ∧ ZeroC r := by
  have e1 : (0 : Rat) * v = 0 := Rat.zero_mul v
  have z11 : Ab ((0 : Rat) * v) 11 := by rw [e1]; constructor <;> decide +kernel
  obtain ⟨r, p, q, e, c1, k1, k2⟩ := scaleF_num hz hc z11 z11 (cst126 (by decide +kernel))
  rw [e1] at k1 k2
  have h1 := near_zero (rep0 .f32) k1
  have h2 := near_zero (rep0 .f32) k2
  subst h1; subst h2
  exact ⟨r, e, c1⟩

theorem step_zero (n : Nat) (hn2 : 2 ≤ n) (hn6 : n ≤ 6) (z : Nat × Nat) (w : World) (hz : ZeroC z) :
    Calls Try.prog 60 #[.int .i64 n, .complex .f32 z.1 z.2] w (RetNanC w) := by
  have z22 : Ab (0 : Rat) 22 := by constructor <;> decide +kernel
  obtain ⟨P, hP, zP⟩ := itF_zero (n - 2) hz hz
  obtain ⟨m, hm, zm⟩ := mul_zero zP hz z22 z22
  have nn1 := ofInt_num (k := .f32) ((n : Int) - 1) (by omega)
  have nn0 := ofInt_num (k := .f32) (n : Int) (by omega)
  obtain ⟨s, hs, zs⟩ := scale_zero zm nn1
  obtain ⟨q, hq, zq⟩ := scale_zero zP nn0
  have one : CNum 1065353216 0 1 0 := ⟨one32, num0⟩
  have b1 : Ab ((0 : Rat) + 1) 22 := by constructor <;> decide +kernel
  have b0 : Ab ((0 : Rat) + 0) 22 := by constructor <;> decide +kernel
  obtain ⟨t, tx, ty, ht, ct, k1, k2⟩ := addF_num zs one b1 b0 (cst126 (by decide +kernel))
  have r22 := rep_n .f32 22 (by decide) _ (show (22 : Rat) = ((22 : Nat) : Rat) by decide +kernel)
  have btx := near_ab k1 r22 b1
  have bty := near_ab k2 r22 b0
  have HP := Lib.hid hP
  have K1 := Lib.hid (fun w => mulComplex_any P.1 P.2 z.1 z.2 m w hm)
  have K2 := Lib.hid (fun w => scale_any m.1 m.2 _ s w hs)
  have K3 := Lib.hid (fun w => add_any s.1 s.2 1065353216 0 t w ht)
  have K4 := Lib.hid (fun w => scale_any P.1 P.2 _ q w hq)
  have K5 := Lib.hid (fun w => quotientOf_nan t.1 t.2 q.1 q.2 tx ty w ct btx bty zq)
  clear hP hm hs ht hq z22 zP zm nn1 nn0 zs zq one b1 b0 ct k1 k2 r22 btx bty hz
  go_enter Try.func60, Try.ntmps60
  go_wp2
  go_loop [5, 9] (fun pp i => ∃ (j : Nat) (y : Nat × Nat), j ≤ n - 2 ∧ i = .int .i64 j ∧ pp = .complex .f32 y.1 y.2 ∧ Hid (itF (n - 2 - j) y z.1 z.2 = some P)) (fun _ i => n - 2 - (intOf i).toNat)
  case atStart => exact ⟨0, z, by omega, rfl, rfl, HP⟩
  case round =>
    obtain ⟨j, y, hj, rfl, rfl, HE⟩ := hrel
    by_cases hlt : j < n - 2
    · obtain ⟨f, hf⟩ : ∃ f, n - 2 - j = f + 1 := ⟨n - 2 - j - 1, by omega⟩
      have hE := HE.out
      rw [hf] at hE
      obtain ⟨y', e1, hE2⟩ := bindS hE
      have hf' : f = n - 2 - (j + 1) := by omega
      rw [hf'] at hE2
      have HE2 := Lib.hid hE2
      have K := Lib.hid (fun w => mulComplex_any y.1 y.2 z.1 z.2 y' w e1)
      clear hE hE2 e1 hf hf'
      go_wp2_with fail
      refine (K.out _).mono ?_
      rintro e w1 ⟨rfl, rfl⟩
      go_wp2_with fail
      go_round
      case rel => exact ⟨j + 1, y', by omega, by go_num, rfl, HE2⟩
      case measure => simp [intOf]; omega
    · have hj' : n - 2 - j = 0 := by omega
      have hE := HE.out
      rw [hj'] at hE
      have hE' : some y = some P := hE
      simp only [Option.some.injEq] at hE'
      subst hE'
      clear hE hj'
      go_wp2_with fail
      refine (K1.out _).mono ?_
      rintro e w1 ⟨rfl, rfl⟩
      go_wp2_with fail
      refine (K2.out _).mono ?_
      rintro e w1 ⟨rfl, rfl⟩
      go_wp2_with fail
      refine (K3.out _).mono ?_
      rintro e w1 ⟨rfl, rfl⟩
      go_wp2_with fail
      refine (K4.out _).mono ?_
      rintro e w1 ⟨rfl, rfl⟩
      go_wp2_with fail
      refine (K5.out _).mono ?_
      rintro e w1 ⟨r, i, rfl, nr, ni, hd⟩
      have F := Lib.hid (And.intro nr (And.intro ni hd))
      clear nr ni hd
      go_wp2_with fail
      go_ret
      exact ⟨r, i, rfl, F.out.1, F.out.2.1, F.out.2.2⟩
end
end Go.Proofs.Ytjhicedblobjfaa
