/- The same reckoning, written so that the kernel does it fast. -/
import Derived.Test.YtjhicedblobjfaaE1
namespace Go.Proofs.Ytjhicedblobjfaa
open Ieee

noncomputable def forceN {α : Type} (n : Nat) (k : Nat → α) : α := Nat.rec (k 0) (fun m _ => k (Nat.succ m)) n
theorem forceN_eq {α : Type} (n : Nat) (k : Nat → α) : forceN n k = k n := by cases n <;> rfl
noncomputable def forceI {α : Type} (z : Int) (k : Int → α) : α := Int.rec (fun n => forceN n fun n => k (.ofNat n)) (fun n => forceN n fun n => k (.negSucc n)) z
theorem forceI_eq {α : Type} (z : Int) (k : Int → α) : forceI z k = k z := by cases z <;> simp [forceI, forceN_eq]

noncomputable def lgS (k b : Nat) (c : Nat → Nat → Nat) (n acc : Nat) : Nat := cond (Nat.ble b n) (forceN (Nat.shiftRight n k) fun n => c n (Nat.add acc k)) (c n acc)
noncomputable def pw (k : Nat) : Nat := Nat.pow 2 k
theorem pw_pow (k : Nat) : pw k = 2 ^ k := rfl
theorem pw_eq (k j : Nat) (h : k = 2 * j) : pw k = 2 ^ (2 * j) := by subst h; rfl
noncomputable def lg (n : Nat) : Nat :=
  cond (Nat.ble (pw 1024) n) (Nat.log2 n) (lgS 512 (pw 512) (lgS 256 (pw 256) (lgS 128 (pw 128) (lgS 64 (pw 64) (lgS 32 4294967296 (lgS 16 65536 (lgS 8 256 (lgS 4 16 (lgS 2 4 (lgS 1 2 fun _ a => a))))))))) n 0)

theorem lgS_ok (k b m : Nat) (c : Nat → Nat → Nat) (hb : b = 2 ^ k) (hm : m = k) (hc : ∀ n a, n < 2 ^ m → c n a = a + n.log2) : ∀ n a, n < 2 ^ (2 * k) → lgS k b c n a = a + n.log2 := by
  subst hm
  revert b
  generalize m = k at *
  intro b hb
  intro n a hn
  unfold lgS
  rw [forceN_eq]
  have hp := Nat.two_pow_pos k
  cases h : Nat.ble b n
  · have : ¬ b ≤ n := fun h' => by rw [Nat.ble_eq_true_of_le h'] at h; cases h
    exact hc n a (by omega)
  · have hle := Nat.le_of_ble_eq_true h
    have e : Nat.shiftRight n k = n / 2 ^ k := Nat.shiftRight_eq_div_pow n k
    have hlt : n / 2 ^ k < 2 ^ k := by
      rw [Nat.div_lt_iff_lt_mul hp, ← Nat.pow_add]
      have : k + k = 2 * k := by omega
      rw [this]; exact hn
    have h0 : n / 2 ^ k ≠ 0 := by
      have : 1 ≤ n / 2 ^ k := (Nat.le_div_iff_mul_le hp).2 (by omega)
      omega
    have hn0 : n ≠ 0 := by omega
    show c (Nat.shiftRight n k) (Nat.add a k) = _
    rw [e, hc _ _ hlt]
    have hlog : (n / 2 ^ k).log2 = n.log2 - k := by
      have l1 := Nat.log2_self_le hn0
      have l2 := @Nat.lt_log2_self n
      have hk : k ≤ n.log2 := (Nat.le_log2 hn0).2 (by omega)
      apply Nat.le_antisymm
      · have : n / 2 ^ k < 2 ^ (n.log2 - k + 1) := by
          rw [Nat.div_lt_iff_lt_mul hp, ← Nat.pow_add]
          have : n.log2 - k + 1 + k = n.log2 + 1 := by omega
          rw [this]; exact l2
        have := (Nat.log2_lt h0).2 this
        omega
      · rw [Nat.le_log2 h0, Nat.le_div_iff_mul_le hp, ← Nat.pow_add]
        have : n.log2 - k + k = n.log2 := by omega
        rw [this]; exact l1
    have hk : k ≤ n.log2 := (Nat.le_log2 hn0).2 (by omega)
    show a + k + _ = _
    omega

theorem lg_eq (n : Nat) : lg n = n.log2 := by
  unfold lg
  cases h : Nat.ble (pw 1024) n
  · have h' : ¬ pw 1024 ≤ n := fun h' => by rw [Nat.ble_eq_true_of_le h'] at h; cases h
    have hn : n < 2 ^ (2 * 512) := by
      rw [← pw_eq 1024 512 (by decide)]; exact Nat.lt_of_not_le h'
    have base : ∀ n a, n < 2 ^ 1 → (fun (_ a : Nat) => a) n a = a + n.log2 := by
      intro n a h
      have : n.log2 = 0 := by
        have : n = 0 ∨ n = 1 := by omega
        rcases this with rfl | rfl <;> rfl
      simp [this]
    have s1 := lgS_ok 1 2 _ _ rfl (by decide) base
    have s2 := lgS_ok 2 4 _ _ rfl (by decide) s1
    have s4 := lgS_ok 4 16 _ _ rfl (by decide) s2
    have s8 := lgS_ok 8 256 _ _ rfl (by decide) s4
    have s16 := lgS_ok 16 65536 _ _ rfl (by decide) s8
    have s32 := lgS_ok 32 4294967296 _ _ rfl (by decide) s16
    have s64 := lgS_ok 64 (pw 64) _ _ (pw_pow 64) (by decide) s32
    have s128 := lgS_ok 128 (pw 128) _ _ (pw_pow 128) (by decide) s64
    have s256 := lgS_ok 256 (pw 256) _ _ (pw_pow 256) (by decide) s128
    have s512 := lgS_ok 512 (pw 512) _ _ (pw_pow 512) (by decide) s256
    have := s512 n 0 hn
    simp only [cond]
    rw [this]; omega
  · rfl

/-- rounding, forced -/
noncomputable def rnK (p m n : Nat) : Nat :=
  forceN n fun n => forceN (Nat.sub (Nat.succ (lg n)) p) fun d0 => forceN (cond (Nat.ble m d0) d0 m) fun d =>
    cond (Nat.beq d 0) n (Nat.shiftLeft (Nat.shiftRight (Nat.add (Nat.sub (Nat.add n (Nat.shiftLeft 1 (Nat.pred d))) 1) (Nat.mod (Nat.shiftRight n d) 2)) d) (Nat.sub d m))
theorem rnK_eq (p m n : Nat) : rnK p m n = rn p m n := by
  simp only [rnK, forceN_eq, lg_eq]
  unfold rn rne
  have hd : (bif Nat.ble m (Nat.sub (Nat.succ (Nat.log2 n)) p) then Nat.sub (Nat.succ (Nat.log2 n)) p else m) = max (n.log2 + 1 - p) m := by
    have e : Nat.sub (Nat.succ (Nat.log2 n)) p = n.log2 + 1 - p := rfl
    rw [e]
    cases h : Nat.ble m (n.log2 + 1 - p)
    · have : ¬ m ≤ n.log2 + 1 - p := fun h' => by rw [Nat.ble_eq_true_of_le h'] at h; cases h
      simp only [cond]; omega
    · have := Nat.le_of_ble_eq_true h
      simp only [cond]; omega
  rw [hd]
  generalize max (n.log2 + 1 - p) m = d
  simp only
  by_cases h0 : d = 0
  · subst h0; simp
  · have hb : Nat.beq d 0 = false := by cases d with | zero => exact absurd rfl h0 | succ k => rfl
    rw [hb, if_neg h0]
    have s1 : Nat.shiftLeft 1 (Nat.pred d) = 2 ^ (d - 1) := Nat.one_shiftLeft (d - 1)
    have s2 : ∀ x, Nat.shiftRight x d = x / 2 ^ d := fun x => Nat.shiftRight_eq_div_pow x d
    have s3 : ∀ x, Nat.shiftLeft x (Nat.sub d m) = x * 2 ^ (d - m) := fun x => Nat.shiftLeft_eq x (d - m)
    simp only [cond, s1, s2, s3]
    rfl
noncomputable def rnIK (p m : Nat) (z : Int) : Int := Int.rec (fun n => .ofNat (rnK p m n)) (fun n => Int.neg (.ofNat (rnK p m (Nat.succ n)))) z
theorem rnIK_eq (p m : Nat) (z : Int) : rnIK p m z = rnI p m z := by cases z <;> simp [rnIK, rnI, rnK_eq] <;> rfl

noncomputable def mulK {α : Type} (a b c d : Int) (k : Int → Int → α) : α :=
  forceI (rnIK 24 149 (rnIK 53 0 (Int.sub (Int.mul a c) (Int.mul b d)))) fun x => forceI (rnIK 24 149 (rnIK 53 0 (Int.add (Int.mul a d) (Int.mul b c)))) fun y => k x y
theorem mulK_eq {α : Type} (a b c d : Int) (k : Int → Int → α) : mulK a b c d k = k (mulI a b c d).1 (mulI a b c d).2 := by
  simp only [mulK, forceI_eq, rnIK_eq]; rfl
noncomputable def addK {α : Type} (a b c d : Int) (k : Int → Int → α) : α :=
  forceI (rnIK 24 0 (Int.add a c)) fun x => forceI (rnIK 24 0 (Int.add b d)) fun y => k x y
theorem addK_eq {α : Type} (a b c d : Int) (k : Int → Int → α) : addK a b c d k = k (addI a b c d).1 (addI a b c d).2 := by
  simp only [addK, forceI_eq, rnIK_eq]; rfl
noncomputable def subK {α : Type} (a b c d : Int) (k : Int → Int → α) : α :=
  forceI (rnIK 24 0 (Int.sub a c)) fun x => forceI (rnIK 24 0 (Int.sub b d)) fun y => k x y
theorem subK_eq {α : Type} (a b c d : Int) (k : Int → Int → α) : subK a b c d k = k (subI a b c d).1 (subI a b c d).2 := by
  simp only [subK, forceI_eq, rnIK_eq]; rfl
/-- |n| ≤ 2^179 -/
noncomputable def okK (n : Int) : Bool := Int.rec (fun n => Nat.ble n (Nat.pow 2 179)) (fun n => Nat.ble (Nat.succ n) (Nat.pow 2 179)) n
theorem okK_eq (n : Int) : okK n = okI n := by
  have key : ∀ m : Nat, Nat.ble m (Nat.pow 2 179) = decide (m ≤ 2 ^ 179) := by
    intro m
    cases h : Nat.ble m (Nat.pow 2 179)
    · have : ¬ m ≤ Nat.pow 2 179 := fun h' => by rw [Nat.ble_eq_true_of_le h'] at h; cases h
      exact (decide_eq_false this).symm
    · exact (decide_eq_true (Nat.le_of_ble_eq_true h)).symm
  cases n
  · exact key _
  · exact key _
/-- the least place of eighths -/
noncomputable def latK (k : Int) : Int := Int.mul k (.ofNat (Nat.pow 2 146))
end Go.Proofs.Ytjhicedblobjfaa
