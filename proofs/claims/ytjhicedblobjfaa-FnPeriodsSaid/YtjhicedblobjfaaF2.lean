/- Maps, escapes and orbits as partial functions of bits. No program in sight. -/
import Derived.Test.YtjhicedblobjfaaF1
namespace Go.Proofs.Ytjhicedblobjfaa
open Ieee

/-- the value of a literal -/
theorem num_lit (k : FloatKind) (b : Nat) (s : Bool) (m : Nat) (e : Int) (v : Rat) (h1 : k.format.read b = .number s m e) (h2 : v = sg s ((m : Rat) * 2 ^ e)) : NumK k b v := ⟨s, m, e, h1, h2⟩

/-- what a map makes of a number -/
def onceF (k : Int) (ca cb a b : Nat) : Option (Nat × Nat) :=
  if k = 1 then do let p ← mulF a b a b; let q ← mulF p.1 p.2 a b; addF q.1 q.2 ca cb
  else if k = 2 then do let x ← sizeF a; let y ← sizeF b; let p ← mulF x y x y; addF p.1 p.2 ca cb
  else if k = 3 then do let p ← mulF a (Op.negFloat .f32 b) a (Op.negFloat .f32 b); addF p.1 p.2 ca cb
  else do let p ← mulF a b a b; addF p.1 p.2 ca cb

/-- a power that is out -/
def outB (p : Nat) : Bool := FloatKind.f32.format.order p 1082130432 == some .gt || FloatKind.f32.format.order p p != some .eq

/-- the index at which an orbit is out, at most so many steps farther, and the number there -/
def escF (k : Int) (ca cb : Nat) : (fuel i a b : Nat) → Option (Nat × Nat × Nat)
  | 0, i, a, b => some (i, a, b)
  | f + 1, i, a, b => do
    let p ← powerF a b
    if outB p then some (i, a, b) else do
      let z ← onceF k ca cb a b
      escF k ca cb f (i + 1) z.1 z.2

/-- an orbit of n + 1 numbers -/
def orbF (k : Int) (ca cb : Nat) : (n a b : Nat) → Option (List (Nat × Nat))
  | 0, a, b => some [(a, b)]
  | n + 1, a, b => do
    let z ← onceF k ca cb a b
    let r ← orbF k ca cb n z.1 z.2
    some ((a, b) :: r)

def rootPartF (a : Nat) : Option Nat := do
  let h ← fmul .f32 1056964608 a
  if FloatKind.f32.format.order h 0 == some .lt then rootNumF 0 else rootNumF h
def rootF (a b : Nat) : Option (Nat × Nat) := do
  let l ← longF a b
  let s ← fadd .f32 l a
  let u ← rootPartF s
  let d ← fsub .f32 l a
  let v ← rootPartF d
  if FloatKind.f32.format.order b 0 == some .lt then pure (u, Op.negFloat .f32 v) else pure (u, v)
/-- the next number of a walk backwards -/
def backF (ca cb : Nat) (odd : Bool) (a b : Nat) : Option (Nat × Nat) := do
  let d ← subF a b ca cb
  let r ← rootF d.1 d.2
  if odd then pure (Op.negFloat .f32 r.1, Op.negFloat .f32 r.2) else pure r
/-- the numbers of a walk backwards, by what is drawn -/
def walkF (ca cb : Nat) : List Bool → Nat → Nat → Option (List (Nat × Nat))
  | [], _, _ => some []
  | o :: os, a, b => do
    let z ← backF ca cb o a b
    let r ← walkF ca cb os z.1 z.2
    some (z :: r)
/-- both parts are finite and at most 1000 -/
def SmallC (a b : Nat) : Prop := ∃ x y, CNum a b x y ∧ Ab x 1000 ∧ Ab y 1000
/-- the bits are a finite number -/
def Fin32 (a : Nat) : Prop := ∃ v, NumK .f32 a v

/-- the numbers that a square does not move -/
def restsF (a b : Nat) : Option ((Nat × Nat) × (Nat × Nat)) := do
  let s ← scaleF a b 1082130432
  let d0 ← subF 1065353216 0 s.1 s.2
  let d ← rootF d0.1 d0.2
  let p ← addF 1065353216 0 d.1 d.2
  let x ← scaleF p.1 p.2 1056964608
  let q ← subF 1065353216 0 d.1 d.2
  let y ← scaleF q.1 q.2 1056964608
  pure (x, y)
/-- the length of the difference of two numbers is at most B -/
def NearBy (B : Rat) (u x : Nat × Nat) : Prop := ∃ e l v, subF u.1 u.2 x.1 x.2 = some e ∧ longF e.1 e.2 = some l ∧ NumK .f32 l v ∧ v ≤ B
/-- what the law says of the numbers that rest -/
structure RestGood (a b : Nat) (r : (Nat × Nat) × (Nat × Nat)) : Prop where
  rests : restsF a b = some r
  smallx : SmallC r.1.1 r.1.2
  smally : SmallC r.2.1 r.2.2
  oncex : ∃ u, onceF 0 a b r.1.1 r.1.2 = some u ∧ Fin32 u.1 ∧ Fin32 u.2 ∧ NearBy (1 / 1000) u r.1
  oncey : ∃ u, onceF 0 a b r.2.1 r.2.2 = some u ∧ Fin32 u.1 ∧ Fin32 u.2 ∧ NearBy (1 / 1000) u r.2
  sum : ∃ s, addF r.1.1 r.1.2 r.2.1 r.2.2 = some s ∧ NearBy (1 / 1000) s (1065353216, 0)
end Go.Proofs.Ytjhicedblobjfaa
