/- Walks: walks backwards. -/
import Derived.Test.YtjhicedblobjfaaA10
namespace Go.Proofs.Ytjhicedblobjfaa
open Go.RowKit

/-- the seeds after 77 -/
def seedN : Nat → Int
  | 0 => 77
  | n + 1 => (1103515245 * seedN n + 12345) % 2147483648
def oddN (n : Nat) : Bool := seedN (n + 1) / 65536 % 2 == 1
theorem seedN_le : ∀ n, 0 ≤ seedN n ∧ seedN n ≤ 2147483647
  | 0 => by decide
  | n + 1 => by unfold seedN; omega

theorem seedN_zero : seedN 0 = 77 := by rw [seedN]
theorem seedN_succ (n : Nat) : (1103515245 * seedN n + 12345) % 2147483648 = seedN (n + 1) := by rw [seedN]
theorem oddN_eq (n : Nat) (s : Int) (h : s = seedN (n + 1)) : oddN n = (s / 65536 % 2 == 1) := by rw [h, oddN]
attribute [irreducible] seedN oddN

/-- the number ahead of number j -/
def prevN (z : Nat × Nat) (L : List (Nat × Nat)) (j : Nat) : Nat × Nat := if j = 0 then z else L.getD (j - 1) (0, 0)

/-- the numbers of a walk backwards -/
structure Back (ca cb : Nat) (z : Nat × Nat) (n : Nat) (L : List (Nat × Nat)) : Prop where
  len : L.length = n
  back : ∀ j, j < n → backF ca cb (oddN j) (prevN z L j).1 (prevN z L j).2 = some (L.getD j (0, 0))
  fin : ∀ j, j < n → Fin32 (L.getD j (0, 0)).1 ∧ Fin32 (L.getD j (0, 0)).2

def WalkPost (n : Nat) (L : List (Nat × Nat)) (w : World) (e : Ending) (w' : World) : Prop :=
  ∃ g cap, e = .returned (.tuple #[.slice (some ⟨g, 0, none⟩) n cap, .int .i64 (seedN n), .bool true]) ∧ w.heap.size ≤ g ∧ g < w'.heap.size ∧ n ≤ cap ∧ cap ≤ maxLen ∧
    (∀ j, j < n → w'.cell? ⟨g, j, none⟩ = some (cv (L.getD j (0, 0)))) ∧ Below w.heap.size w w'

section
set_option maxHeartbeats 800000

theorem back_parts {ca cb a b : Nat} {odd : Bool} {z : Nat × Nat} (h : backF ca cb odd a b = some z) :
    ∃ d r, subF a b ca cb = some d ∧ rootF d.1 d.2 = some r ∧ z = if odd then (Op.negFloat .f32 r.1, Op.negFloat .f32 r.2) else r := by
  obtain ⟨d, e1, h⟩ := bindS h
  obtain ⟨r, e2, h⟩ := bindS h
  refine ⟨d, r, e1, e2, ?_⟩
  cases odd <;> (cases h; rfl)

theorem own_succ {w : World} {base : Nat} {e : TypeId} {v : Value} {n : Nat} {xs : List Value} (h : w.ownsRow base e 1 v (n + 1) xs) : ∃ g c, v = .slice (some ⟨g, 0, none⟩) (n + 1) c := by
  rcases h.2 with ⟨_, h0⟩ | ⟨g, cap, cur, hv, _⟩
  · omega
  · exact ⟨g, cap, hv⟩
theorem own_cap {w : World} {base : Nat} {e : TypeId} {g n cap : Nat} {xs : List Value} (h : w.ownsRow base e 1 (.slice (some ⟨g, 0, none⟩) n cap) n xs) : n ≤ cap ∧ cap ≤ maxLen := by
  rcases h.2 with ⟨h0, _⟩ | ⟨g', cap', cur, hv, _, _, h1, h2, _⟩
  · simp at h0
  · simp at hv
    obtain ⟨_, rfl⟩ := hv
    exact ⟨h1, h2⟩

set_option maxRecDepth 100000 in
theorem inverseWalk_any (ca cb a b n : Nat) (hn : n ≤ 5) (L : List (Nat × Nat)) (w : World) (hc : SmallC ca cb) (hz : SmallC a b) (hL : Back ca cb (a, b) n L) :
    Calls Try.prog 36 #[.complex .f32 ca cb, .complex .f32 a b, .int .i64 n, .int .i64 77] w (WalkPost n L w) := by
  obtain ⟨i0, hi, hz0, hz1, hz2⟩ := info_parts Try.info25
  have H1 := Lib.hid (fun w => isSmall_yes ca cb w hc)
  have H2 := Lib.hid (fun w => isSmall_yes a b w hz)
  have H3 := Lib.hid hL
  clear hc hz hL
  go_enter Try.func36, Try.ntmps36
  go_wp2_with fail
  refine (H1.out _).mono ?_
  rintro e w1 ⟨rfl, rfl⟩
  go_wp2_with fail
  refine (H2.out _).mono ?_
  rintro e w1 ⟨rfl, rfl⟩
  go_wp2_with (first
    | (go_at_call 50; refine (within_yes _ _ _ _ (by omega) (by omega)).mono ?_; rintro e w' ⟨rfl, rfl⟩)
    | (go_at_call 90; refine (isSeed_yes _ (by omega) (by omega) _).mono ?_; rintro e w' ⟨rfl, rfl⟩))
  go_loopw [1, 3, 11, 32] (fun zz s v i wr => ∃ (j : Nat) (z : Nat × Nat), j ≤ n ∧ i = .int .i64 j ∧ s = .int .i64 (seedN j) ∧ zz = .complex .f32 z.1 z.2 ∧ Hid (z = prevN (a, b) L j) ∧ wr.ownsRow w.heap.size 25 1 v j ((L.take j).map cv) ∧ Hid (∃ g c, v = .slice (some ⟨g, 0, none⟩) j c) ∧
      Below w.heap.size w wr)
    (fun _ _ _ i _ => n - (intOf i).toNat)
  case atStart =>
    exact ⟨0, (a, b), by omega, rfl, by rw [seedN_zero], rfl, Lib.hid rfl, World.ownsRow_lit w #[] 0 (Nat.le_refl _) (by unfold maxLen; omega) rfl, Lib.hid ⟨_, _, rfl⟩, (Below.refl _ _).alloc (Nat.le_refl _) _⟩
  case round =>
    obtain ⟨j, z, hj, rfl, rfl, rfl, HZ, hown, HV, hbr⟩ := hrel
    have hL := H3.out
    have hbs : w.heap.size ≤ wr.heap.size := hbr.size
    have hseed := seedN_le j
    by_cases hlt : j < n
    · have hts := Lib.hid (take_succ_cv L j (by rw [hL.len]; omega))
      have hbk := hL.back j hlt
      rw [← HZ.out] at hbk
      obtain ⟨d, r, e1, e2, e3⟩ := back_parts hbk
      have HS := Lib.hid (fun w => nextSeed_any (seedN j) hseed.1 hseed.2 w)
      have HD := Lib.hid (fun w => subtract_any z.1 z.2 ca cb d w e1)
      have HR := Lib.hid (fun w => root_any d.1 d.2 r w e2)
      obtain ⟨y, hy⟩ : ∃ y, y = L.getD j (0, 0) := ⟨_, rfl⟩
      obtain ⟨s, hs⟩ : ∃ s, s = seedN (j + 1) := ⟨_, rfl⟩
      have hs' : (1103515245 * seedN j + 12345) % 2147483648 = s := by rw [hs]; exact seedN_succ j
      rw [← hy] at e3
      have ho := oddN_eq j s hs
      have hsb := seedN_le (j + 1)
      rw [← hs] at hsb
      have HY := Lib.hid hy
      have HSD := Lib.hid hs
      clear hbk e1 e2 hy hs hL HZ HV
      cases hodd : oddN j
      · rw [hodd] at e3 ho
        simp only [Bool.false_eq_true, if_false] at e3
        subst e3
        replace ho := ho.symm
        go_wp2_with fail
        refine (HS.out _).mono ?_
        rintro e w1 ⟨rfl, rfl⟩
        rw [hs']
        clear hs'
        go_wp2_with fail
        refine (HD.out _).mono ?_
        rintro e w1 ⟨rfl, rfl⟩
        go_wp2_with fail
        refine (HR.out _).mono ?_
        rintro e w1 ⟨rfl, rfl⟩
        go_wp2_with (first
          | (at_builtin; refine wpList_append_own _ rfl _ _ 32 rfl w.heap.size 25 i0 (.complex .f32 0 0) 1 8 Try.underlying32 hi hz0 hz1 hz2 rfl (by decide) _ _ _ rfl (hown.alloc _) ⟨wr.heap.size, 0, none⟩ 1 1 [.complex .f32 y.1 y.2] rfl rfl ?c1 ?c2 ?c3 ?c4 ?c5 ?_))
        case c1 =>
          intro j u hj
          match j, hj with
          | 0, hj => simp at hj; subst hj; simp [Addr.add]
        case c2 => intro u hu; simp at hu; subst hu; rfl
        case c3 => unfold maxLen; omega
        case c4 => omega
        case c5 => simp; omega
        intro v' w3 hown' hgrow _
        have hbr3 : Below w.heap.size w w3 := (hbr.alloc hbs _).grown hgrow (by simp; omega) fun q hq => (hown.lt q hq).1
        have HO' : Hid (w3.ownsRow w.heap.size 25 1 v' (j + 1) ((L.take (j + 1)).map cv)) := by
          have e := hts.out
          rw [show Hid (w3.ownsRow w.heap.size 25 1 v' (j + 1) ((L.take (j + 1)).map cv)) = w3.ownsRow w.heap.size 25 1 v' (j + 1) ((L.take (j + 1)).map cv) from rfl, e, ← HY.out, List.map_take]
          exact hown'
        have HZ2 : Hid (y = prevN (a, b) L (j + 1)) := HY
        have HV2 : Hid (∃ g c, v' = .slice (some ⟨g, 0, none⟩) (j + 1) c) := own_succ hown'
        clear hown' hgrow hown hbr
        clear ho hodd hsb
        go_wp2
        go_roundw
        case rel => exact ⟨j + 1, y, by omega, by go_num, by rw [HSD.out], rfl, HZ2, HO', HV2, hbr3⟩
        case measure => simp [intOf]; omega
      · rw [hodd] at e3 ho
        simp only [if_true] at e3
        have HO := Lib.hid (fun w => opposite_any r.1 r.2 w)
        have e4 : Op.negFloat .f32 r.1 = y.1 := by rw [e3]
        have e5 : Op.negFloat .f32 r.2 = y.2 := by rw [e3]
        rw [e4, e5] at HO
        clear e3 e4 e5
        replace ho := ho.symm
        go_wp2_with fail
        refine (HS.out _).mono ?_
        rintro e w1 ⟨rfl, rfl⟩
        rw [hs']
        clear hs'
        go_wp2_with fail
        refine (HD.out _).mono ?_
        rintro e w1 ⟨rfl, rfl⟩
        go_wp2_with fail
        refine (HR.out _).mono ?_
        rintro e w1 ⟨rfl, rfl⟩
        go_wp2_with fail
        refine (HO.out _).mono ?_
        rintro e w1 ⟨rfl, rfl⟩
        go_wp2_with (first
          | (at_builtin; refine wpList_append_own _ rfl _ _ 32 rfl w.heap.size 25 i0 (.complex .f32 0 0) 1 8 Try.underlying32 hi hz0 hz1 hz2 rfl (by decide) _ _ _ rfl (hown.alloc _) ⟨wr.heap.size, 0, none⟩ 1 1 [.complex .f32 y.1 y.2] rfl rfl ?c1 ?c2 ?c3 ?c4 ?c5 ?_))
        case c1 =>
          intro j u hj
          match j, hj with
          | 0, hj => simp at hj; subst hj; simp [Addr.add]
        case c2 => intro u hu; simp at hu; subst hu; rfl
        case c3 => unfold maxLen; omega
        case c4 => omega
        case c5 => simp; omega
        intro v' w3 hown' hgrow _
        have hbr3 : Below w.heap.size w w3 := (hbr.alloc hbs _).grown hgrow (by simp; omega) fun q hq => (hown.lt q hq).1
        have HO' : Hid (w3.ownsRow w.heap.size 25 1 v' (j + 1) ((L.take (j + 1)).map cv)) := by
          have e := hts.out
          rw [show Hid (w3.ownsRow w.heap.size 25 1 v' (j + 1) ((L.take (j + 1)).map cv)) = w3.ownsRow w.heap.size 25 1 v' (j + 1) ((L.take (j + 1)).map cv) from rfl, e, ← HY.out, List.map_take]
          exact hown'
        have HZ2 : Hid (y = prevN (a, b) L (j + 1)) := HY
        have HV2 : Hid (∃ g c, v' = .slice (some ⟨g, 0, none⟩) (j + 1) c) := own_succ hown'
        clear hown' hgrow hown hbr
        clear ho hodd hsb
        go_wp2
        go_roundw
        case rel => exact ⟨j + 1, y, by omega, by go_num, by rw [HSD.out], rfl, HZ2, HO', HV2, hbr3⟩
        case measure => simp [intOf]; omega
    · have hjn : j = n := by omega
      subst hjn
      have htk := Lib.hid (show (L.take j) = L from List.take_of_length_le (by rw [hL.len]; omega))
      obtain ⟨g, cap, hv⟩ := HV.out
      subst hv
      have HOWN := Lib.hid hown
      have hgl := hown.lt g rfl
      have hcap := own_cap hown
      have HFIN : Hid (FinCells wr (some ⟨g, 0, none⟩) j) := by
        intro i hi
        refine ⟨g, (L.getD i (0, 0)).1, (L.getD i (0, 0)).2, rfl, ?_, (hL.fin i hi).1, (hL.fin i hi).2⟩
        rw [hown.cellAt i (by omega), htk.out]
        have hjl : i < L.length := by rw [hL.len]; omega
        simp [List.getD, List.getElem?_eq_getElem hjl, cv]
      have HF := Lib.hid (areFiniteComplex_yes (some ⟨g, 0, none⟩) j cap wr (by unfold maxLen; omega) HFIN)
      have HL := Lib.hid hL.len
      clear hL HFIN hown HZ HV hseed
      go_wp2_with (go_at_call 68; refine (HF.out).mono ?_; rintro e w' ⟨rfl, rfl⟩)
      go_ret3
      refine ⟨g, cap, rfl, hgl.1, hgl.2, hcap.1, hcap.2, ?_, hbr⟩
      intro i hi
      rw [HOWN.out.cellAt i (by omega), htk.out]
      have hjl : i < L.length := by rw [HL.out]; omega
      simp [List.getD, List.getElem?_eq_getElem hjl]
end
end Go.Proofs.Ytjhicedblobjfaa
