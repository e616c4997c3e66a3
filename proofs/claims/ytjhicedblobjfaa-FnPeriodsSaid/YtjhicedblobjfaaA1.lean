/- The operations on floats as plain functions of bits, and the laws by which the walk takes them. -/
import Derived.Test.YtjhicedblobjfaaRows
import Derived.Test.YtjhicedblobjfaaMR
import Derived.WalkKit
import Derived.WalkSpells
import Derived.WalkLawsBesides
import Derived.Lib.Hide
import Derived.BigQuiet
import Derived.Deep.QuietTactic
namespace Go.Proofs.Ytjhicedblobjfaa
open Go.RowKit

/-- a float operation that may have no fixed result -/
def fsem (k : FloatKind) (x y : Nat) : Option Nat → Sem Value
  | some r => pure (.float k r)
  | none => do pure (.float k (← choose (.nanBits k x y)))
@[go_sem] theorem fsem_some (k : FloatKind) (x y r : Nat) : fsem k x y (some r) = pure (.float k r) := rfl

@[go_sem] theorem binOp_fadd (t : TypeId) (k : FloatKind) (x y : Nat) : binOp .add t (.float k x) (.float k y) = fsem k x y (fadd k x y) := by
  simp only [binOp, Op.floatArith, fadd]; cases k.format.add x y <;> simp [fsem]
@[go_sem] theorem binOp_fsub (t : TypeId) (k : FloatKind) (x y : Nat) : binOp .sub t (.float k x) (.float k y) = fsem k x y (fsub k x y) := by
  simp only [binOp, Op.floatArith, fsub]; cases k.format.sub x y <;> simp [fsem]
@[go_sem] theorem binOp_fmul (t : TypeId) (k : FloatKind) (x y : Nat) : binOp .mul t (.float k x) (.float k y) = fsem k x y (fmul k x y) := by
  simp only [binOp, Op.floatArith, fmul]; cases k.format.mul x y <;> simp [fsem]
@[go_sem] theorem binOp_fquo (t : TypeId) (k : FloatKind) (x y : Nat) : binOp .quo t (.float k x) (.float k y) = fsem k x y (fdiv k x y) := by
  simp only [binOp, Op.floatArith, fdiv]; cases k.format.div x y <;> simp [fsem]

@[go_sem] theorem unary_neg_float (k : FloatKind) (b : Nat) : Op.unary .neg (.float k b) = pure (.float k (Op.negFloat k b)) := rfl

/-- a conversion between the kinds of floats that may have no fixed result -/
def csem (s : FloatKind) (b : Nat) (k : FloatKind) : Option Nat → Sem Value
  | some r => pure (.float k r)
  | none => Conv.floatToFloat s b k
@[go_sem] theorem csem_some (s : FloatKind) (b : Nat) (k : FloatKind) (r : Nat) : csem s b k (some r) = pure (.float k r) := rfl

theorem run_conv (src dst : TypeId) (s k : FloatKind) (b : Nat) (w : World) (hs : (Try.prog.underlying src).isSome = true) (hd : Try.prog.underlying dst = some (.float k)) :
    (convert src dst (.float s b)).run Try.prog w = (csem s b k (floatToFloatBits s b k)).run Try.prog w := by
  cases h : floatToFloatBits s b k with
  | some r => rw [run_convert_float_float w src dst s k b r hs hd h]; rfl
  | none =>
    obtain ⟨u, hs'⟩ := Option.isSome_iff_exists.1 hs
    cases u <;> simp [convert, run_underlying hs', run_underlying hd, csem]
@[go_sem] theorem run_widen (b : Nat) (w : World) : (convert 31 40 (.float .f32 b)).run Try.prog w = (csem .f32 b .f64 (widen b)).run Try.prog w :=
  run_conv _ _ _ _ _ _ (by kernel_rfl) (by kernel_rfl)
@[go_sem] theorem run_narrow (b : Nat) (w : World) : (convert 40 31 (.float .f64 b)).run Try.prog w = (csem .f64 b .f32 (narrow b)).run Try.prog w :=
  run_conv _ _ _ _ _ _ (by kernel_rfl) (by kernel_rfl)

theorem run_f64bits (b : Nat) (w : World) : (callFunc 104 #[.float .f64 b]).run Try.prog w = .ok (.value (.int .u64 b)) w := by
  rw [run_callFunc_extern Try.func104 (by kernel_rfl) (by kernel_rfl) (by kernel_rfl) (e := Extern.MathFloatBits.float64bits) (by kernel_rfl)]; rfl
theorem run_f64frombits (b : Nat) (w : World) : (callFunc 103 #[.int .u64 b]).run Try.prog w = .ok (.value (.float .f64 b)) w := by
  rw [run_callFunc_extern Try.func103 (by kernel_rfl) (by kernel_rfl) (by kernel_rfl) (e := Extern.MathFloatBits.float64frombits) (by kernel_rfl)]; rfl
def qsem (x : Nat) : Option Nat → Sem Value
  | some r => pure (.float .f64 r)
  | none => do pure (.float .f64 (← choose (.nanBits .f64 x x)))
@[go_sem] theorem qsem_some (x r : Nat) : qsem x (some r) = pure (.float .f64 r) := rfl
theorem run_fsqrt (x r : Nat) (h : fsqrt x = some r) (w : World) : (callFunc 101 #[.float .f64 x]).run Try.prog w = .ok (.value (.float .f64 r)) w := by
  rw [run_callFunc_extern Try.func101 (by kernel_rfl) (by kernel_rfl) (by kernel_rfl) (e := Extern.MathSqrt.sqrt) (by kernel_rfl)]
  have h' : FloatKind.f64.format.sqrt x = some r := h
  change (Sem.run Try.prog (match FloatKind.f64.format.sqrt x with
    | some r => pure (Value.float .f64 r)
    | none => do pure (Value.float .f64 (← choose (.nanBits .f64 x x)))) w).andThen _ = _
  rw [h']; rfl

theorem bits_andNot (b : Nat) (hb : b < 2 ^ 64) : bits BinOp.andNot IntKind.u64 (b : Int) 9223372036854775808 = ((absBits b : Nat) : Int) := by
  have e : (BitVec.ofInt 64 (b : Int) &&& ~~~ BitVec.ofInt 64 9223372036854775808).toNat = b % 2 ^ 63 := by
    have e1 : BitVec.ofInt 64 (b : Int) = BitVec.ofNat 64 b := by
      apply BitVec.eq_of_toNat_eq; simp
    have e2 : ~~~ BitVec.ofInt 64 9223372036854775808 = BitVec.ofNat 64 (2 ^ 63 - 1) := by decide
    rw [e1, e2, BitVec.toNat_and, BitVec.toNat_ofNat, BitVec.toNat_ofNat, Nat.mod_eq_of_lt hb]
    show b &&& (2 ^ 63 - 1) = _
    exact Nat.and_two_pow_sub_one_eq_mod b 63
  have hlt : b % 2 ^ 63 < 2 ^ 63 := Nat.mod_lt _ (by decide)
  have e3 : IntKind.u64.wrap ((b % 2 ^ 63 : Nat) : Int) = ((b % 2 ^ 63 : Nat) : Int) := by
    exact IntWalk.u64_in _ (by omega)
  show IntKind.u64.wrap ((BitVec.ofInt 64 (b : Int) &&& ~~~ BitVec.ofInt 64 9223372036854775808).toNat : Nat) = _
  rw [e, e3]; rfl

end Go.Proofs.Ytjhicedblobjfaa
