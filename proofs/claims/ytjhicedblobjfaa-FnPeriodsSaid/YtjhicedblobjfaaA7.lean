/- Walks: orbits. -/
import Derived.Test.YtjhicedblobjfaaMA
namespace Go.Proofs.Ytjhicedblobjfaa
open Go.RowKit

/-- a complex number as a value -/
def cv (z : Nat × Nat) : Value := .complex .f32 z.1 z.2

theorem Try.info25 : (Try.prog.info? 25).map (fun i => (i.zero, i.size, i.bytes)) = some (some (.complex .f32 0 0), 1, 8) := by kernel_rfl

/-- an orbit's numbers, as the call asks for them -/
structure Orb (k : Int) (ca cb a b n : Nat) (L : List (Nat × Nat)) : Prop where
  len : L.length = n + 1
  first : L.getD 0 (0, 0) = (a, b)
  next : ∀ j, j < n → onceF k ca cb (L.getD j (0, 0)).1 (L.getD j (0, 0)).2 = some (L.getD (j + 1) (0, 0))
  small : ∀ j, j < n → SmallC (L.getD j (0, 0)).1 (L.getD j (0, 0)).2
  fin : ∀ j, j ≤ n → Fin32 (L.getD j (0, 0)).1 ∧ Fin32 (L.getD j (0, 0)).2

theorem ownsRow_below {w w' : World} {base : Nat} {e : TypeId} {size : Nat} {v : Value} {n : Nat} {xs : List Value} (h : w.ownsRow base e size v n xs) (hb : Below w.heap.size w w') : w'.ownsRow base e size v n xs :=
  h.kept (row := none) ⟨hb.os, hb.tape, hb.output, hb.size, fun i hi _ => hb.block i hi⟩ (by cases v.ownBlock <;> simp)

theorem Orb.next' {k : Int} {ca cb a b n : Nat} {L : List (Nat × Nat)} (h : Orb k ca cb a b n L) : ∀ j, j ≠ 0 → j ≤ n → onceF k ca cb (L.getD (j - 1) (0, 0)).1 (L.getD (j - 1) (0, 0)).2 = some (L.getD j (0, 0))
  | 0, h0, _ => absurd rfl h0
  | i + 1, _, hi => h.next i hi

theorem take_succ_cv (L : List (Nat × Nat)) (j : Nat) (h : j < L.length) : (L.take (j + 1)).map cv = (L.take j).map cv ++ [cv (L.getD j (0, 0))] := by
  rw [List.take_succ_eq_append_getElem h, List.map_append]
  simp [List.getD, List.getElem?_eq_getElem h]

section
set_option maxHeartbeats 800000

set_option maxRecDepth 100000 in
theorem orbitOf_any (k : Int) (hk0 : 0 ≤ k) (hk : k ≤ 3) (ca cb a b n : Nat) (hn : n ≤ 127) (L : List (Nat × Nat)) (w : World) (hc : SmallC ca cb) (hz : SmallC a b) (hL : Orb k ca cb a b n L) :
    Calls Try.prog 11 #[.agg #[.int .i64 k, .complex .f32 ca cb], .complex .f32 a b, .int .i64 ((n : Int) + 1)] w fun e w' =>
      ∃ g cap, e = .returned (.tuple #[.slice (some ⟨g, 0, none⟩) (n + 1) cap, .bool true]) ∧ w.heap.size ≤ g ∧ g < w'.heap.size ∧ n + 1 ≤ cap ∧ cap ≤ maxLen ∧
        (∀ j, j ≤ n → w'.cell? ⟨g, j, none⟩ = some (cv (L.getD j (0, 0)))) ∧ Below w.heap.size w w' := by
  obtain ⟨i0, hi, hz0, hz1, hz2⟩ := info_parts Try.info25
  have H1 := Lib.hid (fun w => validMap_yes k hk0 hk ca cb w hc)
  have H2 := Lib.hid (fun w => isSmall_yes a b w hz)
  have H3 := Lib.hid hL
  clear hc hz hL
  go_enter Try.func11, Try.ntmps11
  go_wp2_with fail
  refine (H1.out _).mono ?_
  rintro e w1 ⟨rfl, hb⟩
  go_wp2_with (first | (go_at_call 48; refine (H2.out _).mono ?_; rintro e w' ⟨rfl, rfl⟩) | (go_at_call 49; refine (areTurns_yes _ (by omega) (by omega) _).mono ?_; rintro e w' ⟨rfl, rfl⟩))
  have hsz1 : w.heap.size + 1 ≤ w1.heap.size := by have := hb.size; simp at this; omega
  have hb0 : Below (w.heap.size + 1) (w.alloc (.cells #[.int .i64 k, .complex .f32 ca cb] 28)) w1 := hb.mono (by simp)
  clear hb
  go_loopw [1, 8, 25] (fun zz v i wr => ∃ (j : Nat) (z : Nat × Nat), j ≤ n + 1 ∧ i = .int .i64 j ∧ zz = .complex .f32 z.1 z.2 ∧ Hid (z = L.getD (j - 1) (0, 0)) ∧ wr.ownsRow (w.heap.size + 1) 25 1 v j ((L.take j).map cv) ∧
      Below (w.heap.size + 1) (w.alloc (.cells #[.int .i64 k, .complex .f32 ca cb] 28)) wr)
    (fun _ _ i _ => n + 1 - (intOf i).toNat)
  case atStart =>
    exact ⟨0, (a, b), by omega, rfl, rfl, Lib.hid (H3.out.first.symm), World.ownsRow_lit w1 #[] 0 hsz1 (by unfold maxLen; omega) rfl, hb0.alloc hsz1 _⟩
  case round =>
    obtain ⟨j, z, hj, rfl, rfl, HZ, hown, hbr⟩ := hrel
    have hL := H3.out
    have hbs : w.heap.size + 1 ≤ wr.heap.size := by have := hbr.size; simp at this; omega
    by_cases hlt : j < n + 1
    · have hts := Lib.hid (take_succ_cv L j (by rw [hL.len]; omega))
      by_cases hj0 : j = 0
      · subst hj0
        clear hL
        go_wp2_with (first
          | (at_builtin; refine wpList_append_own _ rfl _ _ 32 rfl (w.heap.size + 1) 25 i0 (.complex .f32 0 0) 1 8 Try.underlying32 hi hz0 hz1 hz2 rfl (by decide) _ _ _ rfl (hown.alloc _) ⟨wr.heap.size, 0, none⟩ 1 1 [.complex .f32 z.1 z.2] rfl rfl ?c1 ?c2 ?c3 ?c4 ?c5 ?_))
        case c1 =>
          intro j u hj
          match j, hj with
          | 0, hj => simp at hj; subst hj; simp [Addr.add]
        case c2 => intro u hu; simp at hu; subst hu; rfl
        case c3 => unfold maxLen; omega
        case c4 => omega
        case c5 => simp; omega
        intro v' w2 hown' hgrow _
        have hbr2 : Below (w.heap.size + 1) (w.alloc (.cells #[.int .i64 k, .complex .f32 ca cb] 28)) w2 :=
          (hbr.alloc hbs _).grown hgrow (by simp; omega) fun q hq => (hown.lt q hq).1
        have HO : Hid (w2.ownsRow (w.heap.size + 1) 25 1 v' (0 + 1) ((L.take (0 + 1)).map cv)) := by
          have e := hts.out
          have hz := HZ.out
          rw [show Hid (w2.ownsRow (w.heap.size + 1) 25 1 v' (0 + 1) ((L.take (0 + 1)).map cv)) = w2.ownsRow (w.heap.size + 1) 25 1 v' (0 + 1) ((L.take (0 + 1)).map cv) from rfl, e, ← hz]
          exact hown'
        clear hown' hgrow hown hbr
        go_wp2
        go_roundw
        case rel => exact ⟨1, z, by omega, by go_num, rfl, HZ, HO, hbr2⟩
        case measure => simp [intOf]
      · have hz := HZ.out
        have hs : SmallC z.1 z.2 := by rw [hz]; exact hL.small (j - 1) (by omega)
        obtain ⟨y, hy⟩ : ∃ y, y = L.getD j (0, 0) := ⟨_, rfl⟩
        have hnx : onceF k ca cb z.1 z.2 = some y := by
          rw [hz, hy]; exact hL.next' j hj0 (by omega)
        have HY := Lib.hid hy
        have HS := Lib.hid (fun w => isSmall_yes z.1 z.2 w hs)
        have HN := Lib.hid (fun w => once_any k hk0 hk ca cb z.1 z.2 y w hnx)
        have hc0 : wr.cell? ⟨w.heap.size, 0, none⟩ = some (.int .i64 k) := by rw [(bcell hbr).1 _ _ (by omega)]; simp
        have hc1 : wr.cell? ⟨w.heap.size, 1, none⟩ = some (.complex .f32 ca cb) := by rw [(bcell hbr).1 _ _ (by omega)]; simp
        have hpos : (0 : Int) < (j : Int) := by omega
        clear hL hz hs hnx hy hj0
        go_wp2_with (go_at_call 48; refine (HS.out _).mono ?_; rintro e w' ⟨rfl, rfl⟩)
        refine (HN.out _).mono ?_
        rintro e w2 ⟨rfl, hb2⟩
        have hown2 := ownsRow_below hown hb2
        have hbr2 := hbr.trans (hb2.mono hbs)
        have hbs2 : w.heap.size + 1 ≤ w2.heap.size := by have := hb2.size; omega
        clear hown hbr hc0 hc1
        go_wp2_with (first
          | (at_builtin; refine wpList_append_own _ rfl _ _ 32 rfl (w.heap.size + 1) 25 i0 (.complex .f32 0 0) 1 8 Try.underlying32 hi hz0 hz1 hz2 rfl (by decide) _ _ _ rfl (hown2.alloc _) ⟨w2.heap.size, 0, none⟩ 1 1 [.complex .f32 y.1 y.2] rfl rfl ?c1 ?c2 ?c3 ?c4 ?c5 ?_))
        case c1 =>
          intro j u hj
          match j, hj with
          | 0, hj => simp at hj; subst hj; simp [Addr.add]
        case c2 => intro u hu; simp at hu; subst hu; rfl
        case c3 => unfold maxLen; omega
        case c4 => omega
        case c5 => simp; omega
        intro v' w3 hown' hgrow _
        have hbr3 : Below (w.heap.size + 1) (w.alloc (.cells #[.int .i64 k, .complex .f32 ca cb] 28)) w3 :=
          (hbr2.alloc hbs2 _).grown hgrow (by simp; omega) fun q hq => (hown2.lt q hq).1
        have HO : Hid (w3.ownsRow (w.heap.size + 1) 25 1 v' (j + 1) ((L.take (j + 1)).map cv)) := by
          have e := hts.out
          rw [show Hid (w3.ownsRow (w.heap.size + 1) 25 1 v' (j + 1) ((L.take (j + 1)).map cv)) = w3.ownsRow (w.heap.size + 1) 25 1 v' (j + 1) ((L.take (j + 1)).map cv) from rfl, e, ← HY.out, List.map_take]
          exact hown'
        have HY2 : Hid (y = L.getD (j + 1 - 1) (0, 0)) := HY
        clear hown' hgrow hown2 hbr2 HY hb2
        go_wp2
        go_roundw
        case rel => exact ⟨j + 1, y, by omega, by go_num, rfl, HY2, HO, hbr3⟩
        case measure => simp [intOf]; omega
    · have hjn : j = n + 1 := by omega
      subst hjn
      have hz := HZ.out
      have hf : Fin32 z.1 ∧ Fin32 z.2 := by rw [hz]; exact hL.fin n (Nat.le_refl _)
      have HF := Lib.hid (fun w => isFiniteC_yes z.1 z.2 w hf.1 hf.2)
      have htk := Lib.hid (show (L.take (n + 1)) = L from List.take_of_length_le (by rw [hL.len]; omega))
      have hlen := hL.len
      rcases hown.2 with ⟨_, h0⟩ | ⟨g, cap, cur, hv, hg0, hgg, hnc, hcm, _, _⟩
      · omega
      subst hv
      have HOWN := Lib.hid hown
      have hglt := (hown.lt g rfl).2
      have HL := Lib.hid hlen
      clear hL hz hf hown hgg hlen hlt
      go_wp2_with (go_at_call 54; refine (HF.out _).mono ?_; rintro e w' ⟨rfl, rfl⟩)
      go_ret2
      refine ⟨g, cap, rfl, by omega, hglt, hnc, hcm, ?_, ((Below.refl _ _).alloc (Nat.le_refl _) _).trans (hbr.mono (by omega))⟩
      intro j hj
      rw [HOWN.out.cellAt j (by omega), htk.out]
      have hjl : j < L.length := by rw [HL.out]; omega
      simp [List.getD, List.getElem?_eq_getElem hjl]
end
end Go.Proofs.Ytjhicedblobjfaa
