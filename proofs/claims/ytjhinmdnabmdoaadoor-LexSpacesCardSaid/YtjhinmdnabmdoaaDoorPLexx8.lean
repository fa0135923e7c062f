/- Written by this session's extprint.py over the kit's printer. -/
import Derived.Test.YtjhinmdnabmdoaaDoorPLexx0
import Derived.Test.YtjhinmdnabmdoaaDoorPLexx1
import Derived.Test.YtjhinmdnabmdoaaDoorPLexx7
namespace Go.Proofs.YtjhinmdnabmdoaaDoor.PLex
open Go.RowKit Go.Proofs.YtjhinmdnabmdoaaDoorW.PrintWords Go.Proofs.YtjhinmdnabmdoaaDoorW.PrintLast Go.Proofs.YtjhinmdnabmdoaaDoorW.PrintMore
attribute [local go_sem] max2_int min2_int max_two min_two max_three min_three max_four min_four   -- for this text's walks alone
set_option linter.unusedVariables false
set_option linter.unusedSimpArgs false

/-! ### bournelaw13_LexSpaces: function 5 -/
mutual
def bournelaw13_LexSpaces.j0 : Nat → ByteArray → Int → ByteArray → Bool → Bool → Option (Bool)
  | 0, _, _, _, _, _ => none
  | k + 1, x0, x1, x2, x7, x29 => if x29 = true then (some x7) else ((lex_Scan.f x0).bind fun bt211 => (if bt211.2.1 = 0 then (if x1 < 0 then (bournelaw13_LexSpaces.j1 k x0 x1 x2 x7 bt211.1 true) else (bournelaw13_LexSpaces.j1 k x0 x1 x2 x7 bt211.1 (decide (x1 ≥ (bt211.1.length : Int))))) else (bournelaw13_LexSpaces.j1 k x0 x1 x2 x7 bt211.1 true)))
def bournelaw13_LexSpaces.j1 : Nat → ByteArray → Int → ByteArray → Bool → List (S32) → Bool → Option (Bool)
  | 0, _, _, _, _, _, _ => none
  | k + 1, x0, x1, x2, x7, x8, x48 => if x48 = true then (some x7) else (bournelaw13_LexSpaces.l0 k x0 x1 x2 x7 x8 0)
def bournelaw13_LexSpaces.l0 : Nat → ByteArray → Int → ByteArray → Bool → List (S32) → Int → Option (Bool)
  | 0, _, _, _, _, _, _ => none
  | k + 1, x0, x1, x2, x7, x8, x11 => if x11 < (x8.length : Int) then (if 0 ≤ x11 then (if ((rd_T32 x8 x11).f2) < 0 then (some false) else (if ((rd_T32 x8 x11).f2) > (x0.size : Int) then (some false) else (bournelaw13_LexSpaces.l0 k x0 x1 x2 x7 x8 (wrap64 (x11 + 1))))) else (none)) else (bournelaw13_LexSpaces.l1 k x0 x1 x2 x7 x8 0)
def bournelaw13_LexSpaces.l1 : Nat → ByteArray → Int → ByteArray → Bool → List (S32) → Int → Option (Bool)
  | 0, _, _, _, _, _, _ => none
  | k + 1, x0, x1, x2, x7, x8, x12 => if x12 < (x2.size : Int) then (if 0 ≤ x12 then (if (bt x2 x12) = 10 then (some x7) else (bournelaw13_LexSpaces.l1 k x0 x1 x2 x7 x8 (wrap64 (x12 + 1)))) else (none)) else (if 2 + x2.size ≤ 9223372036854775807 then (if ((⟨#[32, 35]⟩ : ByteArray) ++ x2).size + 1 ≤ 9223372036854775807 then (if 0 ≤ x1 then (if x1 < (x8.length : Int) then (bournelaw13_LexSpaces.l2 k x0 x1 x7 x8 (([(⟨#[32]⟩ : ByteArray), (⟨#[9, 13]⟩ : ByteArray), (⟨#[10]⟩ : ByteArray), ((⟨#[32, 35]⟩ : ByteArray) ++ x2) ++ (⟨#[10]⟩ : ByteArray)] : List ByteArray)) ((rd_T32 x8 x1).f2) 0) else (none)) else (none)) else (none)) else (none))
def bournelaw13_LexSpaces.l2 : Nat → ByteArray → Int → Bool → List (S32) → List ByteArray → Int → Int → Option (Bool)
  | 0, _, _, _, _, _, _, _ => none
  | k + 1, x0, x1, x7, x8, x13, x14, x15 => if x15 < (x13.length : Int) then (if 0 ≤ x14 then (if x14 ≤ (x0.size : Int) then (if 0 ≤ x15 then (if (x0.extract 0 (x14 : Int).toNat).size + (rdOf ByteArray.empty x13 x15).size ≤ 9223372036854775807 then (if ((x0.extract 0 (x14 : Int).toNat) ++ (rdOf ByteArray.empty x13 x15)).size + (x0.extract (x14 : Int).toNat x0.size).size ≤ 9223372036854775807 then ((lex_Scan.f (((x0.extract 0 (x14 : Int).toNat) ++ (rdOf ByteArray.empty x13 x15)) ++ (x0.extract (x14 : Int).toNat x0.size))).bind fun bt223 => (if 0 ≤ x1 then (if x1 < (x8.length : Int) then (if ((rd_T32 x8 x1).f0) = 4 then ((bournelaw13_comments.f k x0 x8).bind fun t229 => (bournelaw13_LexSpaces.j5 k x0 x1 x7 x8 x13 x14 x15 bt223.1 bt223.2.1 t229)) else (bournelaw13_LexSpaces.j5 k x0 x1 x7 x8 x13 x14 x15 bt223.1 bt223.2.1 false)) else (none)) else (none))) else (none)) else (none)) else (none)) else (none)) else (none)) else (some x7)
def bournelaw13_LexSpaces.j5 : Nat → ByteArray → Int → Bool → List (S32) → List ByteArray → Int → Int → List (S32) → Int → Bool → Option (Bool)
  | 0, _, _, _, _, _, _, _, _, _, _ => none
  | k + 1, x0, x1, x7, x8, x13, x14, x15, x16, x17, x125 => if x125 = true then (bournelaw13_LexSpaces.l2 k x0 x1 x7 x8 x13 x14 (wrap64 (x15 + 1))) else (if x17 = 0 then ((bourneref13_Same.f k x8 x16 false).bind fun t230 => (bournelaw13_LexSpaces.j6 k x0 x1 x7 x8 x13 x14 x15 x16 (!t230))) else (bournelaw13_LexSpaces.j6 k x0 x1 x7 x8 x13 x14 x15 x16 true))
def bournelaw13_LexSpaces.j6 : Nat → ByteArray → Int → Bool → List (S32) → List ByteArray → Int → Int → List (S32) → Bool → Option (Bool)
  | 0, _, _, _, _, _, _, _, _, _ => none
  | k + 1, x0, x1, x7, x8, x13, x14, x15, x16, x133 => if x133 = true then (some false) else (bournelaw13_LexSpaces.l3 k x0 x1 x7 x8 x13 x14 x15 x16 0)
def bournelaw13_LexSpaces.l3 : Nat → ByteArray → Int → Bool → List (S32) → List ByteArray → Int → Int → List (S32) → Int → Option (Bool)
  | 0, _, _, _, _, _, _, _, _, _ => none
  | k + 1, x0, x1, x7, x8, x13, x14, x15, x16, x19 => if x19 < (x8.length : Int) then (if 0 ≤ x19 then (if x19 ≥ x1 then (if 0 ≤ x15 then (if x15 < (x13.length : Int) then (if x19 < (x16.length : Int) then (if ((rd_T32 x16 x19).f2) = (wrap64 (((rd_T32 x8 x19).f2) + ((rdOf ByteArray.empty x13 x15).size : Int))) then (bournelaw13_LexSpaces.l3 k x0 x1 x7 x8 x13 x14 x15 x16 (wrap64 (x19 + 1))) else (some false)) else (none)) else (none)) else (none)) else (if x19 < (x16.length : Int) then (if ((rd_T32 x16 x19).f2) = ((rd_T32 x8 x19).f2) then (bournelaw13_LexSpaces.l3 k x0 x1 x7 x8 x13 x14 x15 x16 (wrap64 (x19 + 1))) else (some false)) else (none))) else (none)) else (bournelaw13_LexSpaces.l2 k x0 x1 x7 x8 x13 x14 (wrap64 (x15 + 1)))
end
def bournelaw13_LexSpaces.f (k : Nat) (a0 : ByteArray) (a1 : Int) (a2 : ByteArray) : Option (Bool) := (bournelaw13_small.f k).bind fun t210 => (if (a0.size : Int) > 2000 then (bournelaw13_LexSpaces.j0 k a0 a1 a2 t210 true) else (bournelaw13_LexSpaces.j0 k a0 a1 a2 t210 (decide ((a2.size : Int) > 500))))
theorem bournelaw13_LexSpaces.mono_l : ∀ k, (∀ y0 y1 y2 y3 y4, LeO (bournelaw13_LexSpaces.j0 k y0 y1 y2 y3 y4) (bournelaw13_LexSpaces.j0 (k + 1) y0 y1 y2 y3 y4)) ∧ (∀ y0 y1 y2 y3 y4 y5, LeO (bournelaw13_LexSpaces.j1 k y0 y1 y2 y3 y4 y5) (bournelaw13_LexSpaces.j1 (k + 1) y0 y1 y2 y3 y4 y5)) ∧ (∀ y0 y1 y2 y3 y4 y5, LeO (bournelaw13_LexSpaces.l0 k y0 y1 y2 y3 y4 y5) (bournelaw13_LexSpaces.l0 (k + 1) y0 y1 y2 y3 y4 y5)) ∧ (∀ y0 y1 y2 y3 y4 y5, LeO (bournelaw13_LexSpaces.l1 k y0 y1 y2 y3 y4 y5) (bournelaw13_LexSpaces.l1 (k + 1) y0 y1 y2 y3 y4 y5)) ∧ (∀ y0 y1 y2 y3 y4 y5 y6, LeO (bournelaw13_LexSpaces.l2 k y0 y1 y2 y3 y4 y5 y6) (bournelaw13_LexSpaces.l2 (k + 1) y0 y1 y2 y3 y4 y5 y6)) ∧ (∀ y0 y1 y2 y3 y4 y5 y6 y7 y8 y9, LeO (bournelaw13_LexSpaces.j5 k y0 y1 y2 y3 y4 y5 y6 y7 y8 y9) (bournelaw13_LexSpaces.j5 (k + 1) y0 y1 y2 y3 y4 y5 y6 y7 y8 y9)) ∧ (∀ y0 y1 y2 y3 y4 y5 y6 y7 y8, LeO (bournelaw13_LexSpaces.j6 k y0 y1 y2 y3 y4 y5 y6 y7 y8) (bournelaw13_LexSpaces.j6 (k + 1) y0 y1 y2 y3 y4 y5 y6 y7 y8)) ∧ (∀ y0 y1 y2 y3 y4 y5 y6 y7 y8, LeO (bournelaw13_LexSpaces.l3 k y0 y1 y2 y3 y4 y5 y6 y7 y8) (bournelaw13_LexSpaces.l3 (k + 1) y0 y1 y2 y3 y4 y5 y6 y7 y8))
  | 0 => ⟨fun _ _ _ _ _ r h => by simp [bournelaw13_LexSpaces.j0] at h, fun _ _ _ _ _ _ r h => by simp [bournelaw13_LexSpaces.j1] at h, fun _ _ _ _ _ _ r h => by simp [bournelaw13_LexSpaces.l0] at h, fun _ _ _ _ _ _ r h => by simp [bournelaw13_LexSpaces.l1] at h, fun _ _ _ _ _ _ _ r h => by simp [bournelaw13_LexSpaces.l2] at h, fun _ _ _ _ _ _ _ _ _ _ r h => by simp [bournelaw13_LexSpaces.j5] at h, fun _ _ _ _ _ _ _ _ _ r h => by simp [bournelaw13_LexSpaces.j6] at h, fun _ _ _ _ _ _ _ _ _ r h => by simp [bournelaw13_LexSpaces.l3] at h⟩
  | k + 1 => by
    obtain ⟨ih0, ih1, ih2, ih3, ih4, ih5, ih6, ih7⟩ := bournelaw13_LexSpaces.mono_l k
    refine ⟨?_, ?_, ?_, ?_, ?_, ?_, ?_, ?_⟩
    · intro y0 y1 y2 y3 y4
      unfold bournelaw13_LexSpaces.j0
      repeat' first
      | (with_reducible exact ih0 _ _ _ _ _)
      | (with_reducible exact ih1 _ _ _ _ _ _)
      | (with_reducible exact ih2 _ _ _ _ _ _)
      | (with_reducible exact ih3 _ _ _ _ _ _)
      | (with_reducible exact ih4 _ _ _ _ _ _ _)
      | (with_reducible exact ih5 _ _ _ _ _ _ _ _ _ _)
      | (with_reducible exact ih6 _ _ _ _ _ _ _ _ _)
      | (with_reducible exact ih7 _ _ _ _ _ _ _ _ _)
      | (with_reducible exact bournelaw13_comments.mono _ _ _)
      | (with_reducible exact bournelaw13_small.mono _)
      | (with_reducible exact bourneref13_Same.mono _ _ _ _)
      | (with_reducible exact LeO.refl _)
      | (with_reducible exact LeO.none _)
      | (with_reducible refine LeO.ite ?_ ?_)
      | (with_reducible refine LeO.bind ?_ (fun _ => ?_))
      | exact ih0 _ _ _ _ _
      | exact ih1 _ _ _ _ _ _
      | exact ih2 _ _ _ _ _ _
      | exact ih3 _ _ _ _ _ _
      | exact ih4 _ _ _ _ _ _ _
      | exact ih5 _ _ _ _ _ _ _ _ _ _
      | exact ih6 _ _ _ _ _ _ _ _ _
      | exact ih7 _ _ _ _ _ _ _ _ _
      | exact bournelaw13_comments.mono _ _ _
      | exact bournelaw13_small.mono _
      | exact bourneref13_Same.mono _ _ _ _
      | exact LeO.none _
      | refine LeO.ite ?_ ?_
      | refine LeO.bind ?_ (fun _ => ?_)
    · intro y0 y1 y2 y3 y4 y5
      unfold bournelaw13_LexSpaces.j1
      repeat' first
      | (with_reducible exact ih0 _ _ _ _ _)
      | (with_reducible exact ih1 _ _ _ _ _ _)
      | (with_reducible exact ih2 _ _ _ _ _ _)
      | (with_reducible exact ih3 _ _ _ _ _ _)
      | (with_reducible exact ih4 _ _ _ _ _ _ _)
      | (with_reducible exact ih5 _ _ _ _ _ _ _ _ _ _)
      | (with_reducible exact ih6 _ _ _ _ _ _ _ _ _)
      | (with_reducible exact ih7 _ _ _ _ _ _ _ _ _)
      | (with_reducible exact bournelaw13_comments.mono _ _ _)
      | (with_reducible exact bournelaw13_small.mono _)
      | (with_reducible exact bourneref13_Same.mono _ _ _ _)
      | (with_reducible exact LeO.refl _)
      | (with_reducible exact LeO.none _)
      | (with_reducible refine LeO.ite ?_ ?_)
      | (with_reducible refine LeO.bind ?_ (fun _ => ?_))
      | exact ih0 _ _ _ _ _
      | exact ih1 _ _ _ _ _ _
      | exact ih2 _ _ _ _ _ _
      | exact ih3 _ _ _ _ _ _
      | exact ih4 _ _ _ _ _ _ _
      | exact ih5 _ _ _ _ _ _ _ _ _ _
      | exact ih6 _ _ _ _ _ _ _ _ _
      | exact ih7 _ _ _ _ _ _ _ _ _
      | exact bournelaw13_comments.mono _ _ _
      | exact bournelaw13_small.mono _
      | exact bourneref13_Same.mono _ _ _ _
      | exact LeO.none _
      | refine LeO.ite ?_ ?_
      | refine LeO.bind ?_ (fun _ => ?_)
    · intro y0 y1 y2 y3 y4 y5
      unfold bournelaw13_LexSpaces.l0
      repeat' first
      | (with_reducible exact ih0 _ _ _ _ _)
      | (with_reducible exact ih1 _ _ _ _ _ _)
      | (with_reducible exact ih2 _ _ _ _ _ _)
      | (with_reducible exact ih3 _ _ _ _ _ _)
      | (with_reducible exact ih4 _ _ _ _ _ _ _)
      | (with_reducible exact ih5 _ _ _ _ _ _ _ _ _ _)
      | (with_reducible exact ih6 _ _ _ _ _ _ _ _ _)
      | (with_reducible exact ih7 _ _ _ _ _ _ _ _ _)
      | (with_reducible exact bournelaw13_comments.mono _ _ _)
      | (with_reducible exact bournelaw13_small.mono _)
      | (with_reducible exact bourneref13_Same.mono _ _ _ _)
      | (with_reducible exact LeO.refl _)
      | (with_reducible exact LeO.none _)
      | (with_reducible refine LeO.ite ?_ ?_)
      | (with_reducible refine LeO.bind ?_ (fun _ => ?_))
      | exact ih0 _ _ _ _ _
      | exact ih1 _ _ _ _ _ _
      | exact ih2 _ _ _ _ _ _
      | exact ih3 _ _ _ _ _ _
      | exact ih4 _ _ _ _ _ _ _
      | exact ih5 _ _ _ _ _ _ _ _ _ _
      | exact ih6 _ _ _ _ _ _ _ _ _
      | exact ih7 _ _ _ _ _ _ _ _ _
      | exact bournelaw13_comments.mono _ _ _
      | exact bournelaw13_small.mono _
      | exact bourneref13_Same.mono _ _ _ _
      | exact LeO.none _
      | refine LeO.ite ?_ ?_
      | refine LeO.bind ?_ (fun _ => ?_)
    · intro y0 y1 y2 y3 y4 y5
      unfold bournelaw13_LexSpaces.l1
      repeat' first
      | (with_reducible exact ih0 _ _ _ _ _)
      | (with_reducible exact ih1 _ _ _ _ _ _)
      | (with_reducible exact ih2 _ _ _ _ _ _)
      | (with_reducible exact ih3 _ _ _ _ _ _)
      | (with_reducible exact ih4 _ _ _ _ _ _ _)
      | (with_reducible exact ih5 _ _ _ _ _ _ _ _ _ _)
      | (with_reducible exact ih6 _ _ _ _ _ _ _ _ _)
      | (with_reducible exact ih7 _ _ _ _ _ _ _ _ _)
      | (with_reducible exact bournelaw13_comments.mono _ _ _)
      | (with_reducible exact bournelaw13_small.mono _)
      | (with_reducible exact bourneref13_Same.mono _ _ _ _)
      | (with_reducible exact LeO.refl _)
      | (with_reducible exact LeO.none _)
      | (with_reducible refine LeO.ite ?_ ?_)
      | (with_reducible refine LeO.bind ?_ (fun _ => ?_))
      | exact ih0 _ _ _ _ _
      | exact ih1 _ _ _ _ _ _
      | exact ih2 _ _ _ _ _ _
      | exact ih3 _ _ _ _ _ _
      | exact ih4 _ _ _ _ _ _ _
      | exact ih5 _ _ _ _ _ _ _ _ _ _
      | exact ih6 _ _ _ _ _ _ _ _ _
      | exact ih7 _ _ _ _ _ _ _ _ _
      | exact bournelaw13_comments.mono _ _ _
      | exact bournelaw13_small.mono _
      | exact bourneref13_Same.mono _ _ _ _
      | exact LeO.none _
      | refine LeO.ite ?_ ?_
      | refine LeO.bind ?_ (fun _ => ?_)
    · intro y0 y1 y2 y3 y4 y5 y6
      unfold bournelaw13_LexSpaces.l2
      repeat' first
      | (with_reducible exact ih0 _ _ _ _ _)
      | (with_reducible exact ih1 _ _ _ _ _ _)
      | (with_reducible exact ih2 _ _ _ _ _ _)
      | (with_reducible exact ih3 _ _ _ _ _ _)
      | (with_reducible exact ih4 _ _ _ _ _ _ _)
      | (with_reducible exact ih5 _ _ _ _ _ _ _ _ _ _)
      | (with_reducible exact ih6 _ _ _ _ _ _ _ _ _)
      | (with_reducible exact ih7 _ _ _ _ _ _ _ _ _)
      | (with_reducible exact bournelaw13_comments.mono _ _ _)
      | (with_reducible exact bournelaw13_small.mono _)
      | (with_reducible exact bourneref13_Same.mono _ _ _ _)
      | (with_reducible exact LeO.refl _)
      | (with_reducible exact LeO.none _)
      | (with_reducible refine LeO.ite ?_ ?_)
      | (with_reducible refine LeO.bind ?_ (fun _ => ?_))
      | exact ih0 _ _ _ _ _
      | exact ih1 _ _ _ _ _ _
      | exact ih2 _ _ _ _ _ _
      | exact ih3 _ _ _ _ _ _
      | exact ih4 _ _ _ _ _ _ _
      | exact ih5 _ _ _ _ _ _ _ _ _ _
      | exact ih6 _ _ _ _ _ _ _ _ _
      | exact ih7 _ _ _ _ _ _ _ _ _
      | exact bournelaw13_comments.mono _ _ _
      | exact bournelaw13_small.mono _
      | exact bourneref13_Same.mono _ _ _ _
      | exact LeO.none _
      | refine LeO.ite ?_ ?_
      | refine LeO.bind ?_ (fun _ => ?_)
    · intro y0 y1 y2 y3 y4 y5 y6 y7 y8 y9
      unfold bournelaw13_LexSpaces.j5
      repeat' first
      | (with_reducible exact ih0 _ _ _ _ _)
      | (with_reducible exact ih1 _ _ _ _ _ _)
      | (with_reducible exact ih2 _ _ _ _ _ _)
      | (with_reducible exact ih3 _ _ _ _ _ _)
      | (with_reducible exact ih4 _ _ _ _ _ _ _)
      | (with_reducible exact ih5 _ _ _ _ _ _ _ _ _ _)
      | (with_reducible exact ih6 _ _ _ _ _ _ _ _ _)
      | (with_reducible exact ih7 _ _ _ _ _ _ _ _ _)
      | (with_reducible exact bournelaw13_comments.mono _ _ _)
      | (with_reducible exact bournelaw13_small.mono _)
      | (with_reducible exact bourneref13_Same.mono _ _ _ _)
      | (with_reducible exact LeO.refl _)
      | (with_reducible exact LeO.none _)
      | (with_reducible refine LeO.ite ?_ ?_)
      | (with_reducible refine LeO.bind ?_ (fun _ => ?_))
      | exact ih0 _ _ _ _ _
      | exact ih1 _ _ _ _ _ _
      | exact ih2 _ _ _ _ _ _
      | exact ih3 _ _ _ _ _ _
      | exact ih4 _ _ _ _ _ _ _
      | exact ih5 _ _ _ _ _ _ _ _ _ _
      | exact ih6 _ _ _ _ _ _ _ _ _
      | exact ih7 _ _ _ _ _ _ _ _ _
      | exact bournelaw13_comments.mono _ _ _
      | exact bournelaw13_small.mono _
      | exact bourneref13_Same.mono _ _ _ _
      | exact LeO.none _
      | refine LeO.ite ?_ ?_
      | refine LeO.bind ?_ (fun _ => ?_)
    · intro y0 y1 y2 y3 y4 y5 y6 y7 y8
      unfold bournelaw13_LexSpaces.j6
      repeat' first
      | (with_reducible exact ih0 _ _ _ _ _)
      | (with_reducible exact ih1 _ _ _ _ _ _)
      | (with_reducible exact ih2 _ _ _ _ _ _)
      | (with_reducible exact ih3 _ _ _ _ _ _)
      | (with_reducible exact ih4 _ _ _ _ _ _ _)
      | (with_reducible exact ih5 _ _ _ _ _ _ _ _ _ _)
      | (with_reducible exact ih6 _ _ _ _ _ _ _ _ _)
      | (with_reducible exact ih7 _ _ _ _ _ _ _ _ _)
      | (with_reducible exact bournelaw13_comments.mono _ _ _)
      | (with_reducible exact bournelaw13_small.mono _)
      | (with_reducible exact bourneref13_Same.mono _ _ _ _)
      | (with_reducible exact LeO.refl _)
      | (with_reducible exact LeO.none _)
      | (with_reducible refine LeO.ite ?_ ?_)
      | (with_reducible refine LeO.bind ?_ (fun _ => ?_))
      | exact ih0 _ _ _ _ _
      | exact ih1 _ _ _ _ _ _
      | exact ih2 _ _ _ _ _ _
      | exact ih3 _ _ _ _ _ _
      | exact ih4 _ _ _ _ _ _ _
      | exact ih5 _ _ _ _ _ _ _ _ _ _
      | exact ih6 _ _ _ _ _ _ _ _ _
      | exact ih7 _ _ _ _ _ _ _ _ _
      | exact bournelaw13_comments.mono _ _ _
      | exact bournelaw13_small.mono _
      | exact bourneref13_Same.mono _ _ _ _
      | exact LeO.none _
      | refine LeO.ite ?_ ?_
      | refine LeO.bind ?_ (fun _ => ?_)
    · intro y0 y1 y2 y3 y4 y5 y6 y7 y8
      unfold bournelaw13_LexSpaces.l3
      repeat' first
      | (with_reducible exact ih0 _ _ _ _ _)
      | (with_reducible exact ih1 _ _ _ _ _ _)
      | (with_reducible exact ih2 _ _ _ _ _ _)
      | (with_reducible exact ih3 _ _ _ _ _ _)
      | (with_reducible exact ih4 _ _ _ _ _ _ _)
      | (with_reducible exact ih5 _ _ _ _ _ _ _ _ _ _)
      | (with_reducible exact ih6 _ _ _ _ _ _ _ _ _)
      | (with_reducible exact ih7 _ _ _ _ _ _ _ _ _)
      | (with_reducible exact bournelaw13_comments.mono _ _ _)
      | (with_reducible exact bournelaw13_small.mono _)
      | (with_reducible exact bourneref13_Same.mono _ _ _ _)
      | (with_reducible exact LeO.refl _)
      | (with_reducible exact LeO.none _)
      | (with_reducible refine LeO.ite ?_ ?_)
      | (with_reducible refine LeO.bind ?_ (fun _ => ?_))
      | exact ih0 _ _ _ _ _
      | exact ih1 _ _ _ _ _ _
      | exact ih2 _ _ _ _ _ _
      | exact ih3 _ _ _ _ _ _
      | exact ih4 _ _ _ _ _ _ _
      | exact ih5 _ _ _ _ _ _ _ _ _ _
      | exact ih6 _ _ _ _ _ _ _ _ _
      | exact ih7 _ _ _ _ _ _ _ _ _
      | exact bournelaw13_comments.mono _ _ _
      | exact bournelaw13_small.mono _
      | exact bourneref13_Same.mono _ _ _ _
      | exact LeO.none _
      | refine LeO.ite ?_ ?_
      | refine LeO.bind ?_ (fun _ => ?_)
theorem bournelaw13_LexSpaces.mono : ∀ a0 a1 a2 k, LeO (bournelaw13_LexSpaces.f k a0 a1 a2) (bournelaw13_LexSpaces.f (k + 1) a0 a1 a2) := by
  intro a0 a1 a2 k
  obtain ⟨ih0, ih1, ih2, ih3, ih4, ih5, ih6, ih7⟩ := bournelaw13_LexSpaces.mono_l k
  unfold bournelaw13_LexSpaces.f
  repeat' first
      | (with_reducible exact ih0 _ _ _ _ _)
      | (with_reducible exact ih1 _ _ _ _ _ _)
      | (with_reducible exact ih2 _ _ _ _ _ _)
      | (with_reducible exact ih3 _ _ _ _ _ _)
      | (with_reducible exact ih4 _ _ _ _ _ _ _)
      | (with_reducible exact ih5 _ _ _ _ _ _ _ _ _ _)
      | (with_reducible exact ih6 _ _ _ _ _ _ _ _ _)
      | (with_reducible exact ih7 _ _ _ _ _ _ _ _ _)
      | (with_reducible exact bournelaw13_comments.mono _ _ _)
      | (with_reducible exact bournelaw13_small.mono _)
      | (with_reducible exact bourneref13_Same.mono _ _ _ _)
      | (with_reducible exact LeO.refl _)
      | (with_reducible exact LeO.none _)
      | (with_reducible refine LeO.ite ?_ ?_)
      | (with_reducible refine LeO.bind ?_ (fun _ => ?_))
      | exact ih0 _ _ _ _ _
      | exact ih1 _ _ _ _ _ _
      | exact ih2 _ _ _ _ _ _
      | exact ih3 _ _ _ _ _ _
      | exact ih4 _ _ _ _ _ _ _
      | exact ih5 _ _ _ _ _ _ _ _ _ _
      | exact ih6 _ _ _ _ _ _ _ _ _
      | exact ih7 _ _ _ _ _ _ _ _ _
      | exact bournelaw13_comments.mono _ _ _
      | exact bournelaw13_small.mono _
      | exact bourneref13_Same.mono _ _ _ _
      | exact LeO.none _
      | refine LeO.ite ?_ ?_
      | refine LeO.bind ?_ (fun _ => ?_)
def bournelaw13_LexSpaces.T22 : Bool × List (List Nat × List Nat) := (true, [([], []), ([], []), ([0, 1], [0, 1]), ([], []), ([], []), ([3, 4], [3, 4]), ([5], [5]), ([2, 6], [2, 6]), ([], []), ([], []), ([8, 9], [8, 9]), ([7, 10], [7, 10]), ([11], [11]), ([12], [12]), ([13], [13]), ([13], [13]), ([13], [13]), ([14, 12, 0, 1, 2, 3, 4, 5, 6, 7, 8, 9, 10, 11, 12, 13, 14], [14]), ([15, 17, 0, 1, 2, 3, 4, 5, 6, 7, 8, 9, 10, 11, 12, 13, 14, 15, 17], [15]), ([16, 18, 0, 1, 2, 3, 4, 5, 6, 7, 8, 9, 10, 11, 12, 13, 14, 15, 16, 17, 18], [16])])
def bournelaw13_LexSpaces.B22 : List Nat := [0, 0, 3, 0, 0, 24, 56, 127, 0, 0, 768, 2047, 4095, 8191, 16383, 16383, 16383, 32767, 196607, 524287]
theorem bournelaw13_LexSpaces.tab22 : rtab .any (opsOf Tryd.f5 22) = bournelaw13_LexSpaces.T22 := by kernel_rfl
theorem bournelaw13_LexSpaces.bits22 : waitsOk bournelaw13_LexSpaces.T22.2 bournelaw13_LexSpaces.B22 = true := by kernel_rfl
set_option maxHeartbeats 8000000 in
set_option maxRecDepth 100000 in
theorem bournelaw13_LexSpaces.calls (k : Nat) (a0 : ByteArray) (a1 : Int) (a2 : ByteArray) (r : Bool) (w : World) (h : bournelaw13_LexSpaces.f k a0 a1 a2 = some r) :
    Calls Tryd.prog 5 #[.string a0, .int .i64 a1, .string a2] w fun e w' => e = .returned (.bool r) ∧ Below w.heap.size w w' := by
  have HB := Aside0.mk (Below.refl w.heap.size w)
  have H : ((bournelaw13_small.f k).bind fun t210 => (if (a0.size : Int) > 2000 then (bournelaw13_LexSpaces.j0 k a0 a1 a2 t210 true) else (bournelaw13_LexSpaces.j0 k a0 a1 a2 t210 (decide ((a2.size : Int) > 500))))) = some r := h
  clear h
  replace H := Option.bind_eq_some_iff.mp H
  obtain ⟨t210, A40, H⟩ := H
  replace H : (if (a0.size : Int) > 2000 then (bournelaw13_LexSpaces.j0 k a0 a1 a2 t210 true) else (bournelaw13_LexSpaces.j0 k a0 a1 a2 t210 (decide ((a2.size : Int) > 500)))) = some r := H
  have A4 := Aside0.mk A40
  clear A40
  have HC5 := Aside0.mk H
  clear H
  go_enter Tryd.func5, Tryd.ntmps5
  go_upto_region 2 with (first | ((with_reducible refine gate_callee (f := 8) rfl ?_); refine goesL_ (some 21) rfl rfl Tryd.func8 (by kernel_rfl) rfl #[] rfl (by (try simp only [List.map_toArray, List.map_cons, List.map_nil]); first | done | rfl | (simp only [List.length_drop, List.length_take]; rfl)) ?_; (with_reducible refine (bournelaw13_small.calls k  t210 _ A4.out).mono ?_); rintro e w6 ⟨rfl, hb⟩; refine ⟨_, rfl, ?_⟩; have n0_ := Aside0.mk (below_step (by repeat (first | (with_reducible first | exact HB.out | apply below_alloc | apply pw_below_drewN | apply below_drew1) | exact HB.out)) hb); clear HB; have HB := n0_; clear n0_; (try clear hb); (try clear hb2); (try clear hk); (try clear hi)))
  (try simp only [Act.put, List.setIfInBounds_toArray, List.set_cons_zero, List.set_cons_succ])
  go_cut [29] (fun v29 wc => ∃ (kq : Nat) (x29_4 : Bool), v29 = .bool x29_4 ∧ Aside0 (bournelaw13_LexSpaces.j0 kq a0 a1 a2 t210 x29_4 = some r) ∧ Aside0 (kq ≤ k) ∧ Aside0 (Below w.heap.size w wc))
  case first =>
    have H := HC5.out
    clear HC5
    by_cases c7 : (a0.size : Int) > 2000
    · rw [if_pos c7] at H
      have c7b0 : decide (2000 < (a0.size : Int)) = true := decide_eq_true c7
      have c7b1 : decide (2000 < a0.size) = true := decide_eq_true (by omega)
      clear c7
      (first | rw [c7b0] | (simp only [i64_w, i32_w]; rw [c7b0]) | skip)
      have H' := Aside0.mk H
      clear H
      go_wp2
      go_meet
      case rel => exact ⟨_, (true), (by first | rfl | (simp; done) | (simp [*]; done)), H', ⟨by first | omega | exact Nat.le_refl _⟩, ⟨by repeat (first | (with_reducible first | exact HB.out | apply below_alloc | apply pw_below_drewN | apply below_drew1) | exact HB.out)⟩⟩
    · rw [if_neg c7] at H
      have c7b0 : decide (2000 < (a0.size : Int)) = false := decide_eq_false c7
      have c7b1 : decide (2000 < a0.size) = false := decide_eq_false (by omega)
      clear c7
      (first | rw [c7b0] | (simp only [i64_w, i32_w]; rw [c7b0]) | skip)
      have H' := Aside0.mk H
      clear H
      go_wp2
      go_meet
      case rel => exact ⟨_, (decide ((a2.size : Int) > 500)), (by first | rfl | (simp; done) | (simp [*]; done)), H', ⟨by first | omega | exact Nat.le_refl _⟩, ⟨by repeat (first | (with_reducible first | exact HB.out | apply below_alloc | apply pw_below_drewN | apply below_drew1) | exact HB.out)⟩⟩
  case rest =>
    clear HC5
    try clear p2
    try clear c5
    try clear c7
    try clear c7b0
    try clear c7b1
    obtain ⟨kq, x29_4, rfl, HA, HJ4, HB⟩ := hcut
    cases kq with
    | zero => exact absurd HA.out (by simp [bournelaw13_LexSpaces.j0])
    | succ kj4 =>
      have H := HA.out
      clear HA
      simp only [bournelaw13_LexSpaces.j0] at H
      by_cases c8 : x29_4 = true
      · subst c8
        have H1 : (some t210) = some r := by rw [if_pos rfl] at H; exact H
        clear H
        have H := H1
        clear H1
        obtain rfl := Option.some.inj H
        go_wp2
        go_ret
        exact ⟨by first | rfl | (simp [errW_none, errW_some] <;> rfl) | (simp [*, errW_none, errW_some] <;> rfl), by repeat (first | (with_reducible first | exact HB.out | apply below_alloc | apply pw_below_drewN | apply below_drew1) | exact HB.out)⟩
      · replace c8 := Bool.eq_false_iff.mpr c8
        subst c8
        have H1 : ((lex_Scan.f a0).bind fun bt211 => (if bt211.2.1 = 0 then (if a1 < 0 then (bournelaw13_LexSpaces.j1 kj4 a0 a1 a2 t210 bt211.1 true) else (bournelaw13_LexSpaces.j1 kj4 a0 a1 a2 t210 bt211.1 (decide (a1 ≥ (bt211.1.length : Int))))) else (bournelaw13_LexSpaces.j1 kj4 a0 a1 a2 t210 bt211.1 true))) = some r := by rw [if_neg (show ¬ (false = true) by decide)] at H; exact H
        clear H
        have H := H1
        clear H1
        replace H := Option.bind_eq_some_iff.mp H
        obtain ⟨⟨t211, t212, t213⟩, A90, H⟩ := H
        replace H : (if t212 = 0 then (if a1 < 0 then (bournelaw13_LexSpaces.j1 kj4 a0 a1 a2 t210 t211 true) else (bournelaw13_LexSpaces.j1 kj4 a0 a1 a2 t210 t211 (decide (a1 ≥ (t211.length : Int))))) else (bournelaw13_LexSpaces.j1 kj4 a0 a1 a2 t210 t211 true)) = some r := H
        have A9 := Aside0.mk A90
        clear A90
        have HC10 := Aside0.mk H
        clear H
        go_upto_region 5 with (first | ((with_reducible refine gate_callee (f := 10) rfl ?_); refine goesL_ (some 33) rfl rfl Tryd.func10 (by kernel_rfl) rfl #[.string a0] rfl (by (try simp only [List.map_toArray, List.map_cons, List.map_nil]); first | done | rfl | (simp only [List.length_drop, List.length_take]; rfl)) ?_; (with_reducible refine (lex_Scan.calls a0 t211 t212 t213 _ A9.out).mono ?_); rintro e w11 ⟨v214, rfl, ho0, hb⟩; refine ⟨_, rfl, ?_⟩; have n0_ := Aside0.mk (Kd.R_lower ho0 (below_size (by repeat (first | (with_reducible first | exact HB.out | apply below_alloc | apply pw_below_drewN | apply below_drew1) | exact HB.out)))); have n1_ := Aside0.mk (below_step (by repeat (first | (with_reducible first | exact HB.out | apply below_alloc | apply pw_below_drewN | apply below_drew1) | exact HB.out)) hb); clear HB; have HO215 := n0_; have HB := n1_; clear n0_ n1_; (try clear hb); (try clear hb2); (try clear hk); (try clear hi); (try clear ho0)))
        (try simp only [Act.put, List.setIfInBounds_toArray, List.set_cons_zero, List.set_cons_succ])
        go_cut [48] (fun v48 wc => ∃ (kq : Nat) (x48_9 : Bool), v48 = .bool x48_9 ∧ Aside0 (bournelaw13_LexSpaces.j1 kq a0 a1 a2 t210 t211 x48_9 = some r) ∧ Aside0 (kq ≤ kj4) ∧ Aside0 (Kd.R k32 32 wc w.heap.size (fun _ => True) v214 t211) ∧ Aside0 (Below w.heap.size w wc))
        case first =>
          have H := HC10.out
          clear HC10
          by_cases c12 : t212 = 0
          · rw [if_pos c12] at H
            have c12b0 : (t212 == 0) = true := beq_iff_eq.mpr c12
            have c12b1 : (t212 != 0) = false := bne_eq_false_iff_eq.mpr c12
            clear c12
            (first | rw [c12b0] | (simp only [i64_w, i32_w]; rw [c12b0]) | skip)
            by_cases c13 : a1 < 0
            · rw [if_pos c13] at H
              have c13b0 : decide (a1 < 0) = true := decide_eq_true c13
              clear c13
              have H' := Aside0.mk H
              clear H
              go_wp2
              go_meet
              case rel => exact ⟨_, (true), (by first | rfl | (simp; done) | (simp [*]; done)), H', ⟨by have := HJ4.out; first | omega | exact Nat.le_refl _⟩, ⟨by (with_reducible repeat (first | apply Kd.R_alloc | apply Kd.R_drewN | apply Kd.R_drew)); exact HO215.out⟩, ⟨by repeat (first | (with_reducible first | exact HB.out | apply below_alloc | apply pw_below_drewN | apply below_drew1) | exact HB.out)⟩⟩
            · rw [if_neg c13] at H
              have c13b0 : decide (a1 < 0) = false := decide_eq_false c13
              clear c13
              have H' := Aside0.mk H
              clear H
              obtain ⟨Ao14, co14, eo14⟩ := Kd.R_slice HO215.out
              subst eo14
              go_wp2
              go_meet
              case rel => exact ⟨_, (decide (a1 ≥ (t211.length : Int))), (by first | rfl | (simp; done) | (simp [*]; done)), H', ⟨by have := HJ4.out; first | omega | exact Nat.le_refl _⟩, ⟨by (with_reducible repeat (first | apply Kd.R_alloc | apply Kd.R_drewN | apply Kd.R_drew)); exact HO215.out⟩, ⟨by repeat (first | (with_reducible first | exact HB.out | apply below_alloc | apply pw_below_drewN | apply below_drew1) | exact HB.out)⟩⟩
          · rw [if_neg c12] at H
            have c12b0 : (t212 == 0) = false := beq_eq_false_iff_ne.mpr c12
            have c12b1 : (t212 != 0) = true := bne_iff_ne.mpr c12
            (first | rw [c12b0] | (simp only [i64_w, i32_w]; rw [c12b0]) | skip)
            have H' := Aside0.mk H
            clear H
            go_wp2
            go_meet
            case rel => exact ⟨_, (true), (by first | rfl | (simp; done) | (simp [*]; done)), H', ⟨by have := HJ4.out; first | omega | exact Nat.le_refl _⟩, ⟨by (with_reducible repeat (first | apply Kd.R_alloc | apply Kd.R_drewN | apply Kd.R_drew)); exact HO215.out⟩, ⟨by repeat (first | (with_reducible first | exact HB.out | apply below_alloc | apply pw_below_drewN | apply below_drew1) | exact HB.out)⟩⟩
        case rest =>
          clear HC10
          try clear c1
          try clear p2
          try clear c5
          try clear c7
          try clear c7b0
          try clear c7b1
          try clear c8
          try clear c10
          try clear c12
          try clear c12b0
          try clear c12b1
          try clear c13
          try clear c13b0
          try clear p2
          obtain ⟨kq, x48_9, rfl, HA, HJ9, HO_8, HB⟩ := hcut
          cases kq with
          | zero => exact absurd HA.out (by simp [bournelaw13_LexSpaces.j1])
          | succ kj9 =>
            have H := HA.out
            clear HA
            simp only [bournelaw13_LexSpaces.j1] at H
            by_cases c15 : x48_9 = true
            · subst c15
              have H1 : (some t210) = some r := by rw [if_pos rfl] at H; exact H
              clear H
              have H := H1
              clear H1
              obtain rfl := Option.some.inj H
              go_wp2
              go_ret
              exact ⟨by first | rfl | (simp [errW_none, errW_some] <;> rfl) | (simp [*, errW_none, errW_some] <;> rfl), by repeat (first | (with_reducible first | exact HB.out | apply below_alloc | apply pw_below_drewN | apply below_drew1) | exact HB.out)⟩
            · replace c15 := Bool.eq_false_iff.mpr c15
              subst c15
              have H1 : (bournelaw13_LexSpaces.l0 kj9 a0 a1 a2 t210 t211 0) = some r := by rw [if_neg (show ¬ (false = true) by decide)] at H; exact H
              clear H
              have H := H1
              clear H1
              have H' := Aside0.mk H
              clear H
              go_wp2
              go_loopg [11] kj9 (fun kq v11 w' => ∃ (x11_3 : Int), v11 = .int .i64 x11_3 ∧ Aside0 (bournelaw13_LexSpaces.l0 kq a0 a1 a2 t210 t211 x11_3 = some r) ∧ Aside0 (kq ≤ kj9) ∧ Aside0 (Kd.R k32 32 w' w.heap.size (fun _ => True) v214 t211) ∧ Aside0 (Below w.heap.size w w'))
              case atStart => exact ⟨(0), (by first | rfl | (simp; done) | (simp [*]; done)), H', ⟨Nat.le_refl _⟩, ⟨by (with_reducible repeat (first | apply Kd.R_alloc | apply Kd.R_drewN | apply Kd.R_drew)); exact HO_8.out⟩, ⟨by repeat (first | (with_reducible first | exact HB.out | apply below_alloc | apply pw_below_drewN | apply below_drew1) | exact HB.out)⟩⟩
              case round =>
                clear H'
                try clear c1
                try clear p2
                try clear c5
                try clear c7
                try clear c7b0
                try clear c7b1
                try clear c8
                try clear c10
                try clear c12
                try clear c12b0
                try clear c12b1
                try clear c13
                try clear c13b0
                try clear c15
                try clear p2
                obtain ⟨x11_3, rfl, HA, HK3, HO_8, HB⟩ := hrel
                cases gk with
                | zero => exact absurd HA.out (by simp [bournelaw13_LexSpaces.l0])
                | succ k3 =>
                  have H := HA.out
                  clear HA
                  simp only [bournelaw13_LexSpaces.l0] at H
                  by_cases c16 : x11_3 < (t211.length : Int)
                  · rw [if_pos c16] at H
                    have c16b0 : decide (x11_3 < (t211.length : Int)) = true := decide_eq_true c16
                    clear c16
                    by_cases c17 : 0 ≤ x11_3
                    · rw [if_pos c17] at H
                      have c17b0 : decide (0 ≤ x11_3) = true := decide_eq_true c17
                      clear c17
                      by_cases c18 : ((rd_T32 t211 x11_3).f2) < 0
                      · rw [if_pos c18] at H
                        have c18b0 : decide (((rd_T32 t211 x11_3).f2) < 0) = true := decide_eq_true c18
                        clear c18
                        obtain rfl := Option.some.inj H
                        obtain ⟨Ao19, co19, eo19⟩ := Kd.R_slice HO_8.out
                        subst eo19
                        have p216 : 0 ≤ (x11_3 : Int) := of_decide_eq_true (by first | (with_reducible assumption) | assumption)
                        have q216 : x11_3 < (t211.length : Int) := of_decide_eq_true (by first | (with_reducible assumption) | assumption)
                        obtain ⟨ad216, e216, hx216_0, hx216_1, hx216_2⟩ := at_T32 (Kd.R_reads' HO_8.out).2.2 x11_3 p216 q216
                        cases e216
                        replace p216 := eq_true p216
                        replace q216 := eq_true q216
                        go_wp2
                        go_ret
                        exact ⟨by first | rfl | (simp [errW_none, errW_some] <;> rfl) | (simp [*, errW_none, errW_some] <;> rfl), by repeat (first | (with_reducible first | exact HB.out | apply below_alloc | apply pw_below_drewN | apply below_drew1) | exact HB.out)⟩
                      · rw [if_neg c18] at H
                        have c18b0 : decide (((rd_T32 t211 x11_3).f2) < 0) = false := decide_eq_false c18
                        clear c18
                        by_cases c20 : ((rd_T32 t211 x11_3).f2) > (a0.size : Int)
                        · rw [if_pos c20] at H
                          have c20b0 : decide ((a0.size : Int) < ((rd_T32 t211 x11_3).f2)) = true := decide_eq_true c20
                          clear c20
                          obtain rfl := Option.some.inj H
                          obtain ⟨Ao21, co21, eo21⟩ := Kd.R_slice HO_8.out
                          subst eo21
                          have p216 : 0 ≤ (x11_3 : Int) := of_decide_eq_true (by first | (with_reducible assumption) | assumption)
                          have q216 : x11_3 < (t211.length : Int) := of_decide_eq_true (by first | (with_reducible assumption) | assumption)
                          obtain ⟨ad216, e216, hx216_0, hx216_1, hx216_2⟩ := at_T32 (Kd.R_reads' HO_8.out).2.2 x11_3 p216 q216
                          cases e216
                          replace p216 := eq_true p216
                          replace q216 := eq_true q216
                          have p217 : 0 ≤ (x11_3 : Int) := of_decide_eq_true (by first | (with_reducible assumption) | assumption)
                          have q217 : x11_3 < (t211.length : Int) := of_decide_eq_true (by first | (with_reducible assumption) | assumption)
                          obtain ⟨ad217, e217, hx217_0, hx217_1, hx217_2⟩ := at_T32 (Kd.R_reads' HO_8.out).2.2 x11_3 p217 q217
                          obtain rfl : ad216 = ad217 := (by injection e217)
                          replace p217 := eq_true p217
                          replace q217 := eq_true q217
                          go_wp2
                          go_ret
                          exact ⟨by first | rfl | (simp [errW_none, errW_some] <;> rfl) | (simp [*, errW_none, errW_some] <;> rfl), by repeat (first | (with_reducible first | exact HB.out | apply below_alloc | apply pw_below_drewN | apply below_drew1) | exact HB.out)⟩
                        · rw [if_neg c20] at H
                          have c20b0 : decide ((a0.size : Int) < ((rd_T32 t211 x11_3).f2)) = false := decide_eq_false c20
                          clear c20
                          have H' := Aside0.mk H
                          clear H
                          obtain ⟨Ao22, co22, eo22⟩ := Kd.R_slice HO_8.out
                          subst eo22
                          have p216 : 0 ≤ (x11_3 : Int) := of_decide_eq_true (by first | (with_reducible assumption) | assumption)
                          have q216 : x11_3 < (t211.length : Int) := of_decide_eq_true (by first | (with_reducible assumption) | assumption)
                          obtain ⟨ad216, e216, hx216_0, hx216_1, hx216_2⟩ := at_T32 (Kd.R_reads' HO_8.out).2.2 x11_3 p216 q216
                          cases e216
                          replace p216 := eq_true p216
                          replace q216 := eq_true q216
                          have p217 : 0 ≤ (x11_3 : Int) := of_decide_eq_true (by first | (with_reducible assumption) | assumption)
                          have q217 : x11_3 < (t211.length : Int) := of_decide_eq_true (by first | (with_reducible assumption) | assumption)
                          obtain ⟨ad217, e217, hx217_0, hx217_1, hx217_2⟩ := at_T32 (Kd.R_reads' HO_8.out).2.2 x11_3 p217 q217
                          obtain rfl : ad216 = ad217 := (by injection e217)
                          replace p217 := eq_true p217
                          replace q217 := eq_true q217
                          go_wp2
                          go_roundg k3
                          case measure => have := HJ4.out; have := HJ9.out; have := HK3.out; omega
                          case rel => exact ⟨(wrap64 (x11_3 + 1)), (by first | rfl | (simp; done) | (simp [*]; done)), H', ⟨by have := HJ4.out; have := HJ9.out; have := HK3.out; omega⟩, ⟨by (with_reducible repeat (first | apply Kd.R_alloc | apply Kd.R_drewN | apply Kd.R_drew)); exact HO_8.out⟩, ⟨by repeat (first | (with_reducible first | exact HB.out | apply below_alloc | apply pw_below_drewN | apply below_drew1) | exact HB.out)⟩⟩
                    · rw [if_neg c17] at H
                      exact absurd H (by simp)
                  · rw [if_neg c16] at H
                    have c16b0 : decide (x11_3 < (t211.length : Int)) = false := decide_eq_false c16
                    clear c16
                    have H' := Aside0.mk H
                    clear H
                    obtain ⟨Ao23, co23, eo23⟩ := Kd.R_slice HO_8.out
                    subst eo23
                    go_wp2
                    go_loopg [12] k3 (fun kq v12 w' => ∃ (x12_4 : Int), v12 = .int .i64 x12_4 ∧ Aside0 (bournelaw13_LexSpaces.l1 kq a0 a1 a2 t210 t211 x12_4 = some r) ∧ Aside0 (kq ≤ k3) ∧ Aside0 (Kd.R k32 32 w' w.heap.size (fun _ => True) (.slice Ao23 t211.length co23) t211) ∧ Aside0 (Below w.heap.size w w'))
                    case atStart => exact ⟨(0), (by first | rfl | (simp; done) | (simp [*]; done)), H', ⟨Nat.le_refl _⟩, ⟨by (with_reducible repeat (first | apply Kd.R_alloc | apply Kd.R_drewN | apply Kd.R_drew)); exact HO_8.out⟩, ⟨by repeat (first | (with_reducible first | exact HB.out | apply below_alloc | apply pw_below_drewN | apply below_drew1) | exact HB.out)⟩⟩
                    case round =>
                      clear H'
                      try clear c1
                      try clear c2
                      try clear p2
                      try clear q2
                      try clear hx2
                      try clear c5
                      try clear p6
                      try clear c7
                      try clear c7b0
                      try clear c7b1
                      try clear c8
                      try clear c10
                      try clear c12
                      try clear c12b0
                      try clear c12b1
                      try clear c13
                      try clear c13b0
                      try clear c15
                      try clear c16
                      try clear c16b0
                      try clear c17
                      try clear c17b0
                      try clear c18
                      try clear c18b0
                      try clear c20
                      try clear c20b0
                      try clear p21
                      try clear q21
                      try clear hx21
                      try clear hx216_0
                      try clear hx216_1
                      try clear hx216_2
                      try clear hx217_0
                      try clear hx217_1
                      try clear hx217_2
                      try clear p2
                      try clear p216
                      try clear p217
                      try clear q216
                      try clear q217
                      obtain ⟨x12_4, rfl, HA, HK4, HO_8, HB⟩ := hrel
                      cases gk with
                      | zero => exact absurd HA.out (by simp [bournelaw13_LexSpaces.l1])
                      | succ k4 =>
                        have H := HA.out
                        clear HA
                        simp only [bournelaw13_LexSpaces.l1] at H
                        by_cases c24 : x12_4 < (a2.size : Int)
                        · rw [if_pos c24] at H
                          have c24b0 : decide (x12_4 < (a2.size : Int)) = true := decide_eq_true c24
                          clear c24
                          by_cases c25 : 0 ≤ x12_4
                          · rw [if_pos c25] at H
                            have c25b0 : decide (0 ≤ x12_4) = true := decide_eq_true c25
                            clear c25
                            by_cases c27 : (bt a2 x12_4) = 10
                            · rw [if_pos c27] at H
                              have c27b0 : ((bt a2 x12_4) == 10) = true := beq_iff_eq.mpr c27
                              have c27b1 : ((bt a2 x12_4) != 10) = false := bne_eq_false_iff_eq.mpr c27
                              clear c27
                              obtain rfl := Option.some.inj H
                              have p26 : 0 ≤ (x12_4 : Int) := of_decide_eq_true (by first | (with_reducible assumption) | assumption)
                              have q26 : x12_4 < (a2.size : Int) := of_decide_eq_true (by first | (with_reducible assumption) | assumption)
                              have hx26 := bt_at a2 x12_4
                              replace p26 := eq_true p26
                              replace q26 := eq_true q26
                              go_wp2
                              go_ret
                              exact ⟨by first | rfl | (simp [errW_none, errW_some] <;> rfl) | (simp [*, errW_none, errW_some] <;> rfl), by repeat (first | (with_reducible first | exact HB.out | apply below_alloc | apply pw_below_drewN | apply below_drew1) | exact HB.out)⟩
                            · rw [if_neg c27] at H
                              have c27b0 : ((bt a2 x12_4) == 10) = false := beq_eq_false_iff_ne.mpr c27
                              have c27b1 : ((bt a2 x12_4) != 10) = true := bne_iff_ne.mpr c27
                              have H' := Aside0.mk H
                              clear H
                              have p26 : 0 ≤ (x12_4 : Int) := of_decide_eq_true (by first | (with_reducible assumption) | assumption)
                              have q26 : x12_4 < (a2.size : Int) := of_decide_eq_true (by first | (with_reducible assumption) | assumption)
                              have hx26 := bt_at a2 x12_4
                              replace p26 := eq_true p26
                              replace q26 := eq_true q26
                              go_wp2
                              go_roundg k4
                              case measure => have := HJ4.out; have := HJ9.out; have := HK3.out; have := HK4.out; omega
                              case rel => exact ⟨(wrap64 (x12_4 + 1)), (by first | rfl | (simp; done) | (simp [*]; done)), H', ⟨by have := HJ4.out; have := HJ9.out; have := HK3.out; have := HK4.out; omega⟩, ⟨by (with_reducible repeat (first | apply Kd.R_alloc | apply Kd.R_drewN | apply Kd.R_drew)); exact HO_8.out⟩, ⟨by repeat (first | (with_reducible first | exact HB.out | apply below_alloc | apply pw_below_drewN | apply below_drew1) | exact HB.out)⟩⟩
                          · rw [if_neg c25] at H
                            exact absurd H (by simp)
                        · rw [if_neg c24] at H
                          have c24b0 : decide (x12_4 < (a2.size : Int)) = false := decide_eq_false c24
                          clear c24
                          by_cases c28 : 2 + a2.size ≤ 9223372036854775807
                          · rw [if_pos c28] at H
                            have c28b0 := eq_true c28
                            have c28b1 : decide (2 + a2.size ≤ 9223372036854775807) = true := decide_eq_true c28
                            try have c28b2 : (9223372036854775807 < 2 + a2.size) = False := eq_false (Nat.not_lt.2 c28)
                            by_cases c29 : ((⟨#[32, 35]⟩ : ByteArray) ++ a2).size + 1 ≤ 9223372036854775807
                            · rw [if_pos c29] at H
                              have c29b0 := eq_true c29
                              have c29b1 : decide (((⟨#[32, 35]⟩ : ByteArray) ++ a2).size + 1 ≤ 9223372036854775807) = true := decide_eq_true c29
                              try have c29b2 : (9223372036854775807 < ((⟨#[32, 35]⟩ : ByteArray) ++ a2).size + 1) = False := eq_false (Nat.not_lt.2 c29)
                              have c29b3 : (9223372036854775807 < 2 + a2.size + 1) = False := eq_false (by have h_ := c29; rw [ByteArray.size_append] at h_; have h2_ : (⟨#[32, 35]⟩ : ByteArray).size = 2 := rfl; omega)
                              obtain ⟨y218, hy218⟩ : ∃ y_ : List ByteArray, y_ = (([(⟨#[32]⟩ : ByteArray), (⟨#[9, 13]⟩ : ByteArray), (⟨#[10]⟩ : ByteArray), ((⟨#[32, 35]⟩ : ByteArray) ++ a2) ++ (⟨#[10]⟩ : ByteArray)] : List ByteArray)) := ⟨_, rfl⟩
                              replace H : (if 0 ≤ a1 then (if a1 < (t211.length : Int) then (bournelaw13_LexSpaces.l2 k4 a0 a1 t210 t211 y218 ((rd_T32 t211 a1).f2) 0) else (none)) else (none)) = some r := by first | (rw [hy218]; with_reducible exact H) | (have H2_ := (Option.bind_some _ _).symm.trans H; rw [hy218]; with_reducible exact H2_) | (have H2_ := (Option.bind_some _ _).symm.trans H; with_reducible exact H2_) | with_reducible exact H | (rw [hy218]; exact H) | exact H
                              have Ny218 := Aside0.mk hy218
                              clear hy218
                              by_cases c30 : 0 ≤ a1
                              · rw [if_pos c30] at H
                                have c30b0 : decide (0 ≤ a1) = true := decide_eq_true c30
                                clear c30
                                by_cases c31 : a1 < (t211.length : Int)
                                · rw [if_pos c31] at H
                                  have c31b0 : decide (a1 < (t211.length : Int)) = true := decide_eq_true c31
                                  clear c31
                                  have H' := Aside0.mk H
                                  clear H
                                  go_wp2_with (first | ((with_reducible refine gate_dst (N := 86) rfl ?_); (try (refine gate_guard (by rfl) ?_; dsimp only)); refine Kd.R_lit Kd.string _ 9 ?hg (N := 86) ?hd (xs := ([(⟨#[32]⟩ : ByteArray), (⟨#[9, 13]⟩ : ByteArray), (⟨#[10]⟩ : ByteArray), ((⟨#[32, 35]⟩ : ByteArray) ++ a2) ++ (⟨#[10]⟩ : ByteArray)] : List ByteArray)) (inner := [.string (⟨#[32]⟩ : ByteArray), .string (⟨#[9, 13]⟩ : ByteArray), .string (⟨#[10]⟩ : ByteArray), .string (((⟨#[32, 35]⟩ : ByteArray) ++ a2) ++ (⟨#[10]⟩ : ByteArray))]) (ok := fun _ => True) (okp := fun _ => True) ?hr ?hp (fun _ hk => hk) trivial (Below.refl _ _) (Nat.le_refl _) (by simp) ?_; (case hd => rfl); (case hg => rfl); (case hr => first | (go_simp; done) | (go_simp; rfl)); (case hp => exact (Reps.one (show Kd.M Kd.string _ _ _ (⟨#[32]⟩ : ByteArray) [.string (⟨#[32]⟩ : ByteArray)] from rfl) (Reps.one (show Kd.M Kd.string _ _ _ (⟨#[9, 13]⟩ : ByteArray) [.string (⟨#[9, 13]⟩ : ByteArray)] from rfl) (Reps.one (show Kd.M Kd.string _ _ _ (⟨#[10]⟩ : ByteArray) [.string (⟨#[10]⟩ : ByteArray)] from rfl) (Reps.one (show Kd.M Kd.string _ _ _ (((⟨#[32, 35]⟩ : ByteArray) ++ a2) ++ (⟨#[10]⟩ : ByteArray)) [.string (((⟨#[32, 35]⟩ : ByteArray) ++ a2) ++ (⟨#[10]⟩ : ByteArray))] from rfl) (Reps.none _ _)))))); intro v219 w32 ho33 hb hg_ hnew_; clear hg_ hnew_; (first | rw [← Ny218.out] at ho33 | (simp only [Int.reduceToNat] at ho33; rw [← Ny218.out] at ho33)); have n0_ := Aside0.mk (Kd.R_below (by (with_reducible repeat (first | apply Kd.R_alloc | apply Kd.R_drewN | apply Kd.R_drew)); exact HO_8.out) hb); have n1_ := Aside0.mk (Kd.R_lower ho33 (below_size (by repeat (first | (with_reducible first | exact HB.out | apply below_alloc | apply pw_below_drewN | apply below_drew1) | exact HB.out)))); have n2_ := Aside0.mk (below_step (by repeat (first | (with_reducible first | exact HB.out | apply below_alloc | apply pw_below_drewN | apply below_drew1) | exact HB.out)) hb); clear HO_8; clear HB; have HO_8 := n0_; have HO220 := n1_; have HB := n2_; clear n0_ n1_ n2_; clear hb ho33; have p221 : 0 ≤ (a1 : Int) := of_decide_eq_true (by first | (with_reducible assumption) | assumption); have q221 : a1 < (t211.length : Int) := of_decide_eq_true (by first | (with_reducible assumption) | assumption); obtain ⟨ad221, e221, hx221_0, hx221_1, hx221_2⟩ := at_T32 (Kd.R_reads' HO_8.out).2.2 a1 p221 q221; cases e221; replace p221 := eq_true p221; replace q221 := eq_true q221))
                                  go_loopg [15] k4 (fun kq v15 w' => ∃ (x15_5 : Int), v15 = .int .i64 x15_5 ∧ Aside0 (bournelaw13_LexSpaces.l2 kq a0 a1 t210 t211 y218 ((rd_T32 t211 a1).f2) x15_5 = some r) ∧ Aside0 (kq ≤ k4) ∧ Aside0 (Kd.R k32 32 w' w.heap.size (fun _ => True) (.slice (some ad221) t211.length co23) t211) ∧ Aside0 (Kd.R Kd.string 9 w' w.heap.size (fun _ => True) v219 y218) ∧ Aside0 (Below w.heap.size w w'))
                                  case atStart => exact ⟨(0), (by first | rfl | (simp; done) | (simp [*]; done)), H', ⟨Nat.le_refl _⟩, ⟨by (with_reducible repeat (first | apply Kd.R_alloc | apply Kd.R_drewN | apply Kd.R_drew)); exact HO_8.out⟩, ⟨by (with_reducible repeat (first | apply Kd.R_alloc | apply Kd.R_drewN | apply Kd.R_drew)); exact HO220.out⟩, ⟨by repeat (first | (with_reducible first | exact HB.out | apply below_alloc | apply pw_below_drewN | apply below_drew1) | exact HB.out)⟩⟩
                                  case round =>
                                    clear H'
                                    try clear c1
                                    try clear c2
                                    try clear p2
                                    try clear q2
                                    try clear hx2
                                    try clear c3
                                    try clear c5
                                    try clear p6
                                    try clear c7
                                    try clear c7b0
                                    try clear c7b1
                                    try clear c8
                                    try clear c10
                                    try clear c12
                                    try clear c12b0
                                    try clear c12b1
                                    try clear c13
                                    try clear c13b0
                                    try clear c15
                                    try clear c16
                                    try clear c16b0
                                    try clear c17
                                    try clear c17b0
                                    try clear c18
                                    try clear c18b0
                                    try clear c20
                                    try clear c20b0
                                    try clear p21
                                    try clear q21
                                    try clear hx21
                                    try clear p22
                                    try clear q22
                                    try clear hx22
                                    try clear c24
                                    try clear c24b0
                                    try clear c25
                                    try clear c25b0
                                    try clear p26
                                    try clear q26
                                    try clear hx26
                                    try clear c27
                                    try clear c27b0
                                    try clear c27b1
                                    try clear c28
                                    try clear c28b0
                                    try clear c28b1
                                    try clear c28b2
                                    try clear c29
                                    try clear c29b0
                                    try clear c29b1
                                    try clear c29b2
                                    try clear c30
                                    try clear c30b0
                                    try clear c31
                                    try clear c31b0
                                    try clear hx216_0
                                    try clear hx216_1
                                    try clear hx216_2
                                    try clear hx217_0
                                    try clear hx217_1
                                    try clear hx217_2
                                    try clear hx221_0
                                    try clear hx221_1
                                    try clear hx221_2
                                    try clear p2
                                    try clear p21
                                    try clear p216
                                    try clear p217
                                    try clear p221
                                    try clear p26
                                    try clear p6
                                    try clear q2
                                    try clear q21
                                    try clear q216
                                    try clear q217
                                    try clear q221
                                    try clear q26
                                    obtain ⟨x15_5, rfl, HA, HK5, HO_8, HO_13, HB⟩ := hrel
                                    cases gk with
                                    | zero => exact absurd HA.out (by simp [bournelaw13_LexSpaces.l2])
                                    | succ k5 =>
                                      have H := HA.out
                                      clear HA
                                      simp only [bournelaw13_LexSpaces.l2] at H
                                      by_cases c34 : x15_5 < (y218.length : Int)
                                      · rw [if_pos c34] at H
                                        have c34b0 : decide (x15_5 < (y218.length : Int)) = true := decide_eq_true c34
                                        clear c34
                                        by_cases c35 : 0 ≤ ((rd_T32 t211 a1).f2)
                                        · rw [if_pos c35] at H
                                          have c35b0 := eq_true c35
                                          have c35b1 : decide (0 ≤ ((rd_T32 t211 a1).f2)) = true := decide_eq_true c35
                                          clear c35
                                          by_cases c36 : ((rd_T32 t211 a1).f2) ≤ (a0.size : Int)
                                          · rw [if_pos c36] at H
                                            have c36b0 := eq_true c36
                                            have c36b1 : decide (((rd_T32 t211 a1).f2) ≤ (a0.size : Int)) = true := decide_eq_true c36
                                            clear c36
                                            by_cases c37 : 0 ≤ x15_5
                                            · rw [if_pos c37] at H
                                              have c37b0 : decide (0 ≤ x15_5) = true := decide_eq_true c37
                                              clear c37
                                              by_cases c38 : (a0.extract 0 (((rd_T32 t211 a1).f2) : Int).toNat).size + (rdOf ByteArray.empty y218 x15_5).size ≤ 9223372036854775807
                                              · rw [if_pos c38] at H
                                                have c38b0 := eq_true c38
                                                have c38b1 : decide ((a0.extract 0 (((rd_T32 t211 a1).f2) : Int).toNat).size + (rdOf ByteArray.empty y218 x15_5).size ≤ 9223372036854775807) = true := decide_eq_true c38
                                                try have c38b2 : (9223372036854775807 < (a0.extract 0 (((rd_T32 t211 a1).f2) : Int).toNat).size + (rdOf ByteArray.empty y218 x15_5).size) = False := eq_false (Nat.not_lt.2 c38)
                                                have c38b3 : (9223372036854775807 < ((rd_T32 t211 a1).f2).toNat + (rdOf ByteArray.empty y218 x15_5).size) = False := eq_false (by have hle_ : ((rd_T32 t211 a1).f2) ≤ (a0.size : Int) := of_decide_eq_true (by assumption); have h_ := c38; simp only [ByteArray.size_extract] at h_; omega)
                                                have c39b0 := eq_true (of_decide_eq_true (by first | (with_reducible assumption) | assumption) : 0 ≤ ((rd_T32 t211 a1).f2))
                                                have c40b0 := eq_true (of_decide_eq_true (by first | (with_reducible assumption) | assumption) : ((rd_T32 t211 a1).f2) ≤ (a0.size : Int))
                                                by_cases c41 : ((a0.extract 0 (((rd_T32 t211 a1).f2) : Int).toNat) ++ (rdOf ByteArray.empty y218 x15_5)).size + (a0.extract (((rd_T32 t211 a1).f2) : Int).toNat a0.size).size ≤ 9223372036854775807
                                                · rw [if_pos c41] at H
                                                  have c41b0 := eq_true c41
                                                  have c41b1 : decide (((a0.extract 0 (((rd_T32 t211 a1).f2) : Int).toNat) ++ (rdOf ByteArray.empty y218 x15_5)).size + (a0.extract (((rd_T32 t211 a1).f2) : Int).toNat a0.size).size ≤ 9223372036854775807) = true := decide_eq_true c41
                                                  try have c41b2 : (9223372036854775807 < ((a0.extract 0 (((rd_T32 t211 a1).f2) : Int).toNat) ++ (rdOf ByteArray.empty y218 x15_5)).size + (a0.extract (((rd_T32 t211 a1).f2) : Int).toNat a0.size).size) = False := eq_false (Nat.not_lt.2 c41)
                                                  have c41b3 : (9223372036854775807 < ((rd_T32 t211 a1).f2).toNat + (rdOf ByteArray.empty y218 x15_5).size + (a0.size - ((rd_T32 t211 a1).f2).toNat)) = False := eq_false (by have hle_ : ((rd_T32 t211 a1).f2) ≤ (a0.size : Int) := of_decide_eq_true (by assumption); have h_ := c41; simp only [ByteArray.size_append, ByteArray.size_extract] at h_; omega)
                                                  replace H := Option.bind_eq_some_iff.mp H
                                                  obtain ⟨⟨t223, t224, t225⟩, A420, H⟩ := H
                                                  replace H : (if 0 ≤ a1 then (if a1 < (t211.length : Int) then (if ((rd_T32 t211 a1).f0) = 4 then ((bournelaw13_comments.f k5 a0 t211).bind fun t229 => (bournelaw13_LexSpaces.j5 k5 a0 a1 t210 t211 y218 ((rd_T32 t211 a1).f2) x15_5 t223 t224 t229)) else (bournelaw13_LexSpaces.j5 k5 a0 a1 t210 t211 y218 ((rd_T32 t211 a1).f2) x15_5 t223 t224 false)) else (none)) else (none)) = some r := H
                                                  have A42 := Aside0.mk A420
                                                  clear A420
                                                  have HC43 := Aside0.mk H
                                                  clear H
                                                  obtain ⟨Ao44, co44, eo44⟩ := Kd.R_slice HO_13.out
                                                  subst eo44
                                                  try go_wp2
                                                  have n0_ := Aside0.mk (Kd.R_drew HO_8.out)
                                                  have n1_ := Aside0.mk (Kd.R_drew HO_13.out)
                                                  have n2_ := Aside0.mk (below_drew1 HB.out)
                                                  clear HO_8
                                                  clear HO_13
                                                  clear HB
                                                  have HO_8 := n0_
                                                  have HO_13 := n1_
                                                  have HB := n2_
                                                  clear n0_ n1_ n2_
                                                  have p222 : 0 ≤ (x15_5 : Int) := of_decide_eq_true (by first | (with_reducible assumption) | assumption)
                                                  have q222 : x15_5 < (y218.length : Int) := of_decide_eq_true (by first | (with_reducible assumption) | assumption)
                                                  obtain ⟨ad222, e222, hx222_0⟩ := Kd.at_string (Kd.R_reads' HO_13.out).2.2 x15_5 p222 q222
                                                  cases e222
                                                  replace p222 := eq_true p222
                                                  replace q222 := eq_true q222
                                                  refine start_ (n := 20) (S := fun w' => w'.cell? (ad222.add (x15_5).toNat) = some (.string (rdOf ByteArray.empty y218 x15_5))) (ds := []) #[false, false, false, false, false, false, false, false, false, false, false, false, false, false, false, false, false, false, false, false] (by kernel_rfl) rfl rfl (hx222_0) (fun hHeld => ?_); refine with_tabW bournelaw13_LexSpaces.tab22 bournelaw13_LexSpaces.bits22 (fun HT_ HW_ => ?_)
                                                  generalize wr.drew = w45 at HO_8 HO_13 HB hx222_0 hHeld ⊢
                                                  refine pure_ (i := 0) (N := some 99) (v := ?_) (a' := ?_) #[true, false, false, false, false, false, false, false, false, false, false, false, false, false, false, false, false, false, false, false] rfl rfl (any_of HT_.out (by kernel_rfl)) (fun _ _ _ h => h) (Or.inl ⟨by rfl, ?_⟩) ?_ ?_
                                                  rotate_left
                                                  · intro w'
                                                    go_simp
                                                    with_reducible rfl
                                                  rotate_left
                                                  · simp only [Act.put, List.setIfInBounds_toArray, List.set_cons_zero, List.set_cons_succ, i64_w, i32_w]
                                                    rfl
                                                  refine pure_ (i := 1) (N := some 100) (v := ?_) (a' := ?_) #[true, true, false, false, false, false, false, false, false, false, false, false, false, false, false, false, false, false, false, false] rfl rfl (any_of HT_.out (by kernel_rfl)) (fun _ _ _ h => h) (Or.inl ⟨by rfl, ?_⟩) ?_ ?_
                                                  rotate_left
                                                  · intro w'
                                                    go_simp
                                                    with_reducible rfl
                                                  rotate_left
                                                  · simp only [Act.put, List.setIfInBounds_toArray, List.set_cons_zero, List.set_cons_succ, i64_w, i32_w]
                                                    rfl
                                                  refine pure_ (i := 2) (N := some 101) (v := ?_) (a' := ?_) #[true, true, true, false, false, false, false, false, false, false, false, false, false, false, false, false, false, false, false, false] rfl rfl (any_of HT_.out (by kernel_rfl)) (fun _ _ _ h => h) (Or.inl ⟨by rfl, ?_⟩) ?_ ?_
                                                  rotate_left
                                                  · intro w'
                                                    go_simp
                                                    with_reducible rfl
                                                  rotate_left
                                                  · simp only [Act.put, List.setIfInBounds_toArray, List.set_cons_zero, List.set_cons_succ, i64_w, i32_w]
                                                    rfl
                                                  refine pure_ (i := 3) (N := some 102) (v := ?_) (a' := ?_) #[true, true, true, true, false, false, false, false, false, false, false, false, false, false, false, false, false, false, false, false] rfl rfl (any_of HT_.out (by kernel_rfl)) (fun _ _ _ h => h) (Or.inl ⟨by rfl, ?_⟩) ?_ ?_
                                                  rotate_left
                                                  · intro w'
                                                    go_simp
                                                    with_reducible rfl
                                                  rotate_left
                                                  · simp only [Act.put, List.setIfInBounds_toArray, List.set_cons_zero, List.set_cons_succ, i64_w, i32_w]
                                                    rfl
                                                  refine pure_ (i := 4) (N := some 103) (v := ?_) (a' := ?_) #[true, true, true, true, true, false, false, false, false, false, false, false, false, false, false, false, false, false, false, false] rfl rfl (any_of HT_.out (by kernel_rfl)) (fun _ _ _ h => h) (Or.inl ⟨by rfl, ?_⟩) ?_ ?_
                                                  rotate_left
                                                  · intro w'
                                                    go_simp
                                                    with_reducible rfl
                                                  rotate_left
                                                  · simp only [Act.put, List.setIfInBounds_toArray, List.set_cons_zero, List.set_cons_succ, i64_w, i32_w]
                                                    rfl
                                                  refine pure_ (i := 5) (N := some 104) (v := ?_) (a' := ?_) #[true, true, true, true, true, true, false, false, false, false, false, false, false, false, false, false, false, false, false, false] rfl rfl (any_of HT_.out (by kernel_rfl)) (fun _ _ _ h => h) (Or.inl ⟨by rfl, ?_⟩) ?_ ?_
                                                  rotate_left
                                                  · intro w'
                                                    go_simp
                                                    with_reducible rfl
                                                  rotate_left
                                                  · simp only [Act.put, List.setIfInBounds_toArray, List.set_cons_zero, List.set_cons_succ, i64_w, i32_w]
                                                    rfl
                                                  refine pure_ (i := 8) (N := some 107) (v := ?_) (a' := ?_) #[true, true, true, true, true, true, false, false, true, false, false, false, false, false, false, false, false, false, false, false] rfl rfl (any_of HT_.out (by kernel_rfl)) (fun _ _ _ h => h) (Or.inl ⟨by rfl, ?_⟩) ?_ ?_
                                                  rotate_left
                                                  · intro w'
                                                    go_simp
                                                    with_reducible rfl
                                                  rotate_left
                                                  · simp only [Act.put, List.setIfInBounds_toArray, List.set_cons_zero, List.set_cons_succ, i64_w, i32_w]
                                                    rfl
                                                  refine pure_ (i := 9) (N := some 108) (v := ?_) (a' := ?_) #[true, true, true, true, true, true, false, false, true, true, false, false, false, false, false, false, false, false, false, false] rfl rfl (any_of HT_.out (by kernel_rfl)) (fun _ _ _ h => h) (Or.inl ⟨by rfl, ?_⟩) ?_ ?_
                                                  rotate_left
                                                  · intro w'
                                                    go_simp
                                                    with_reducible rfl
                                                  rotate_left
                                                  · simp only [Act.put, List.setIfInBounds_toArray, List.set_cons_zero, List.set_cons_succ, i64_w, i32_w]
                                                    rfl
                                                  refine pure_ (i := 10) (N := some 109) (v := ?_) (a' := ?_) #[true, true, true, true, true, true, false, false, true, true, true, false, false, false, false, false, false, false, false, false] rfl rfl (any_of HT_.out (by kernel_rfl)) (fun _ _ _ h => h) (Or.inl ⟨by rfl, ?_⟩) ?_ ?_
                                                  rotate_left
                                                  · intro w'
                                                    go_simp
                                                    with_reducible rfl
                                                  rotate_left
                                                  · simp only [Act.put, List.setIfInBounds_toArray, List.set_cons_zero, List.set_cons_succ, i64_w, i32_w]
                                                    rfl
                                                  refine take_ (i := 6) (N := some 105) (v := ?_) (a' := ?_) #[true, true, true, true, true, true, true, false, true, true, true, false, false, false, false, false, false, false, false, false] rfl rfl (take_ofW HT_.out HW_.out (by kernel_rfl)) (fun _ _ _ h => h) (Or.inl ⟨by rfl, ?_⟩) hHeld ?_ ?_
                                                  rotate_left
                                                  · intro w' s0
                                                    go_simp
                                                    with_reducible rfl
                                                  rotate_left
                                                  · simp only [Act.put, List.setIfInBounds_toArray, List.set_cons_zero, List.set_cons_succ, i64_w, i32_w]
                                                    rfl
                                                  refine pure_ (i := 7) (N := some 106) (v := ?_) (a' := ?_) #[true, true, true, true, true, true, true, true, true, true, true, false, false, false, false, false, false, false, false, false] rfl rfl (any_of HT_.out (by kernel_rfl)) (fun _ _ _ h => h) (Or.inl ⟨by rfl, ?_⟩) ?_ ?_
                                                  rotate_left
                                                  · intro w'
                                                    go_simp
                                                    with_reducible rfl
                                                  rotate_left
                                                  · simp only [Act.put, List.setIfInBounds_toArray, List.set_cons_zero, List.set_cons_succ, i64_w, i32_w]
                                                    rfl
                                                  refine pure_ (i := 11) (N := some 110) (v := ?_) (a' := ?_) #[true, true, true, true, true, true, true, true, true, true, true, true, false, false, false, false, false, false, false, false] rfl rfl (any_of HT_.out (by kernel_rfl)) (fun _ _ _ h => h) (Or.inl ⟨by rfl, ?_⟩) ?_ ?_
                                                  rotate_left
                                                  · intro w'
                                                    go_simp
                                                    with_reducible rfl
                                                  rotate_left
                                                  · simp only [Act.put, List.setIfInBounds_toArray, List.set_cons_zero, List.set_cons_succ, i64_w, i32_w]
                                                    rfl
                                                  refine one_ (i := 12) (N := some 111) #[true, true, true, true, true, true, true, true, true, true, true, true, true, false, false, false, false, false, false, false] rfl rfl (one_of HT_.out (by kernel_rfl)) (by decide) (fun K hK => ?_)
                                                  refine goes_ Tryd.func10 (by kernel_rfl) rfl #[.string (((a0.extract 0 (((rd_T32 t211 a1).f2) : Int).toNat) ++ (rdOf ByteArray.empty y218 x15_5)) ++ (a0.extract (((rd_T32 t211 a1).f2) : Int).toNat a0.size))] (by rfl) rfl rfl (by (try simp only [List.map_toArray, List.map_cons, List.map_nil]); first | done | rfl | (simp only [List.length_drop, List.length_take]; rfl)) ?_
                                                  with_reducible refine (lex_Scan.calls (((a0.extract 0 (((rd_T32 t211 a1).f2) : Int).toNat) ++ (rdOf ByteArray.empty y218 x15_5)) ++ (a0.extract (((rd_T32 t211 a1).f2) : Int).toNat a0.size)) t223 t224 t225 _ A42.out).mono ?_
                                                  rintro e w46 ⟨v226, rfl, ho0, hb⟩
                                                  have HS0_ := (hb.cell (World.block_lt_of_cell? _ _ (hHeld))).trans (hHeld)
                                                  refine ⟨_, rfl, ?_⟩
                                                  have n0_ := Aside0.mk (Kd.R_elder' (by (with_reducible repeat (first | apply Kd.R_alloc | apply Kd.R_drewN | apply Kd.R_drew)); exact HO_8.out) (Kd.R_base ho0) hb)
                                                  have n1_ := Aside0.mk (Kd.R_below (by (with_reducible repeat (first | apply Kd.R_alloc | apply Kd.R_drewN | apply Kd.R_drew)); exact HO_13.out) hb)
                                                  have n2_ := Aside0.mk (Kd.R_lower (Kd.R_new' ho0 (Kd.R_lt (by (with_reducible repeat (first | apply Kd.R_alloc | apply Kd.R_drewN | apply Kd.R_drew)); exact HO_8.out))) (below_size (by repeat (first | (with_reducible first | exact HB.out | apply below_alloc | apply pw_below_drewN | apply below_drew1) | exact HB.out))))
                                                  have n3_ := Aside0.mk (below_step (by repeat (first | (with_reducible first | exact HB.out | apply below_alloc | apply pw_below_drewN | apply below_drew1) | exact HB.out)) hb)
                                                  clear HO_8
                                                  clear HO_13
                                                  clear HB
                                                  have HO_8 := n0_
                                                  have HO_13 := n1_
                                                  have HO227 := n2_
                                                  have HB := n3_
                                                  clear n0_ n1_ n2_ n3_
                                                  (try clear hb)
                                                  (try clear hb2)
                                                  (try clear hk)
                                                  (try clear hi)
                                                  (try clear ho0)
                                                  refine hK.out _ _ (HS0_) (fun hHeld => ?_)
                                                  clear hK K
                                                  refine norm_ (a' := ?_) ?_ ?_
                                                  rotate_left
                                                  · show Act.put _ (some 111) _ = _
                                                    simp only [Act.put, List.setIfInBounds_toArray, List.set_cons_zero, List.set_cons_succ, i64_w, i32_w]
                                                    rfl
                                                  refine pure_ (i := 13) (N := some 98) (v := ?_) (a' := ?_) #[true, true, true, true, true, true, true, true, true, true, true, true, true, true, false, false, false, false, false, false] rfl rfl (any_of HT_.out (by kernel_rfl)) (fun _ _ _ h => h) (Or.inl ⟨by rfl, ?_⟩) ?_ ?_
                                                  rotate_left
                                                  · intro w'
                                                    go_simp
                                                    with_reducible rfl
                                                  rotate_left
                                                  · simp only [Act.put, List.setIfInBounds_toArray, List.set_cons_zero, List.set_cons_succ, i64_w, i32_w]
                                                    rfl
                                                  refine pure_ (i := 14) (N := some 112) (v := ?_) (a' := ?_) #[true, true, true, true, true, true, true, true, true, true, true, true, true, true, true, false, false, false, false, false] rfl rfl (any_of HT_.out (by kernel_rfl)) (fun _ _ _ h => h) (Or.inl ⟨by rfl, ?_⟩) ?_ ?_
                                                  rotate_left
                                                  · intro w'
                                                    go_simp
                                                    with_reducible rfl
                                                  rotate_left
                                                  · simp only [Act.put, List.setIfInBounds_toArray, List.set_cons_zero, List.set_cons_succ, i64_w, i32_w]
                                                    rfl
                                                  refine pure_ (i := 15) (N := some 113) (v := ?_) (a' := ?_) #[true, true, true, true, true, true, true, true, true, true, true, true, true, true, true, true, false, false, false, false] rfl rfl (any_of HT_.out (by kernel_rfl)) (fun _ _ _ h => h) (Or.inl ⟨by rfl, ?_⟩) ?_ ?_
                                                  rotate_left
                                                  · intro w'
                                                    go_simp
                                                    with_reducible rfl
                                                  rotate_left
                                                  · simp only [Act.put, List.setIfInBounds_toArray, List.set_cons_zero, List.set_cons_succ, i64_w, i32_w]
                                                    rfl
                                                  refine pure_ (i := 16) (N := some 114) (v := ?_) (a' := ?_) #[true, true, true, true, true, true, true, true, true, true, true, true, true, true, true, true, true, false, false, false] rfl rfl (any_of HT_.out (by kernel_rfl)) (fun _ _ _ h => h) (Or.inl ⟨by rfl, ?_⟩) ?_ ?_
                                                  rotate_left
                                                  · intro w'
                                                    go_simp
                                                    with_reducible rfl
                                                  rotate_left
                                                  · simp only [Act.put, List.setIfInBounds_toArray, List.set_cons_zero, List.set_cons_succ, i64_w, i32_w]
                                                    rfl
                                                  refine pure_ (i := 17) (N := some 16) (v := ?_) (a' := ?_) #[true, true, true, true, true, true, true, true, true, true, true, true, true, true, true, true, true, true, false, false] rfl rfl (any_of HT_.out (by kernel_rfl)) (fun _ _ _ h => h) (Or.inl ⟨by rfl, ?_⟩) ?_ ?_
                                                  rotate_left
                                                  · intro w'
                                                    go_simp
                                                    with_reducible rfl
                                                  rotate_left
                                                  · simp only [Act.put, List.setIfInBounds_toArray, List.set_cons_zero, List.set_cons_succ, i64_w, i32_w]
                                                    rfl
                                                  refine pure_ (i := 18) (N := some 17) (v := ?_) (a' := ?_) #[true, true, true, true, true, true, true, true, true, true, true, true, true, true, true, true, true, true, true, false] rfl rfl (any_of HT_.out (by kernel_rfl)) (fun _ _ _ h => h) (Or.inl ⟨by rfl, ?_⟩) ?_ ?_
                                                  rotate_left
                                                  · intro w'
                                                    go_simp
                                                    with_reducible rfl
                                                  rotate_left
                                                  · simp only [Act.put, List.setIfInBounds_toArray, List.set_cons_zero, List.set_cons_succ, i64_w, i32_w]
                                                    rfl
                                                  refine pure_ (i := 19) (N := some 18) (v := ?_) (a' := ?_) #[true, true, true, true, true, true, true, true, true, true, true, true, true, true, true, true, true, true, true, true] rfl rfl (any_of HT_.out (by kernel_rfl)) (fun _ _ _ h => h) (Or.inl ⟨by rfl, ?_⟩) ?_ ?_
                                                  rotate_left
                                                  · intro w'
                                                    go_simp
                                                    with_reducible rfl
                                                  rotate_left
                                                  · simp only [Act.put, List.setIfInBounds_toArray, List.set_cons_zero, List.set_cons_succ, i64_w, i32_w]
                                                    rfl
                                                  refine done_ (done_of HT_.out (by kernel_rfl)) ?_
                                                  go_upto_region 23 with (fail)
                                                  go_cut [125] (fun v125 wc => ∃ (kq : Nat) (x125_42 : Bool), v125 = .bool x125_42 ∧ Aside0 (bournelaw13_LexSpaces.j5 kq a0 a1 t210 t211 y218 ((rd_T32 t211 a1).f2) x15_5 t223 t224 x125_42 = some r) ∧ Aside0 (kq ≤ k5) ∧ Aside0 (Kd.R k32 32 wc w.heap.size (fun k_ => some k_ ≠ (v226 : Value).ownBlock) (.slice (some ad221) t211.length co23) t211) ∧ Aside0 (Kd.R Kd.string 9 wc w.heap.size (fun _ => True) (.slice (some ad222) y218.length co44) y218) ∧ Aside0 (Kd.R k32 32 wc w.heap.size (fun k_ => some k_ ≠ ((.slice (some ad221) t211.length co23) : Value).ownBlock) v226 t223) ∧ Aside0 (Below w.heap.size w wc))
                                                  case first =>
                                                    have H := HC43.out
                                                    clear HC43
                                                    by_cases c47 : 0 ≤ a1
                                                    · rw [if_pos c47] at H
                                                      have c47b0 : decide (0 ≤ a1) = true := decide_eq_true c47
                                                      clear c47
                                                      (first | rw [c47b0] | (simp only [i64_w, i32_w]; rw [c47b0]) | skip)
                                                      by_cases c48 : a1 < (t211.length : Int)
                                                      · rw [if_pos c48] at H
                                                        have c48b0 : decide (a1 < (t211.length : Int)) = true := decide_eq_true c48
                                                        clear c48
                                                        by_cases c49 : ((rd_T32 t211 a1).f0) = 4
                                                        · rw [if_pos c49] at H
                                                          have c49b0 : (((rd_T32 t211 a1).f0) == 4) = true := beq_iff_eq.mpr c49
                                                          have c49b1 : (((rd_T32 t211 a1).f0) != 4) = false := bne_eq_false_iff_eq.mpr c49
                                                          clear c49
                                                          replace H := Option.bind_eq_some_iff.mp H
                                                          obtain ⟨t229, A500, H⟩ := H
                                                          replace H : (bournelaw13_LexSpaces.j5 k5 a0 a1 t210 t211 y218 ((rd_T32 t211 a1).f2) x15_5 t223 t224 t229) = some r := H
                                                          have A50 := Aside0.mk A500
                                                          clear A500
                                                          have H' := Aside0.mk H
                                                          clear H
                                                          have p228 : 0 ≤ (a1 : Int) := of_decide_eq_true (by first | (with_reducible assumption) | assumption)
                                                          have q228 : a1 < (t211.length : Int) := of_decide_eq_true (by first | (with_reducible assumption) | assumption)
                                                          obtain ⟨ad228, e228, hx228_0, hx228_1, hx228_2⟩ := at_T32 (Kd.R_reads' HO_8.out).2.2 a1 p228 q228
                                                          obtain rfl : ad221 = ad228 := (by injection e228)
                                                          replace p228 := eq_true p228
                                                          replace q228 := eq_true q228
                                                          go_wp2_with (first | (go_at_call 15; (with_reducible refine (bournelaw13_comments.calls k5 a0 _ _ t211 t229 _ ?side1 ?side2 A50.out).mono ?_); (case side1 => repeat (first | exact (Kd.R_reads' HO_8.out).2.2 | (with_reducible refine Kd.C_alloc ?_ _) | (with_reducible refine Kd.C_drewN ?_ _) | (with_reducible refine Kd.C_drew ?_))); (case side2 => exact (Kd.R_reads' HO_8.out).2.1); rintro e w51 ⟨rfl, hb⟩; have n0_ := Aside0.mk (Kd.R_below (by (with_reducible repeat (first | apply Kd.R_alloc | apply Kd.R_drewN | apply Kd.R_drew)); exact HO_8.out) hb); have n1_ := Aside0.mk (Kd.R_below (by (with_reducible repeat (first | apply Kd.R_alloc | apply Kd.R_drewN | apply Kd.R_drew)); exact HO_13.out) hb); have n2_ := Aside0.mk (Kd.R_below (by (with_reducible repeat (first | apply Kd.R_alloc | apply Kd.R_drewN | apply Kd.R_drew)); exact HO227.out) hb); have n3_ := Aside0.mk (below_step (by repeat (first | (with_reducible first | exact HB.out | apply below_alloc | apply pw_below_drewN | apply below_drew1) | exact HB.out)) hb); clear HO_8; clear HO_13; clear HO227; clear HB; have HO_8 := n0_; have HO_13 := n1_; have HO227 := n2_; have HB := n3_; clear n0_ n1_ n2_ n3_; (try clear hb); (try clear hb2); (try clear hk); (try clear hi)))
                                                          go_meet
                                                          case rel => exact ⟨_, (t229), (by first | rfl | (simp; done) | (simp [*]; done)), H', ⟨by have := HJ4.out; have := HJ9.out; have := HK3.out; have := HK4.out; have := HK5.out; first | omega | exact Nat.le_refl _⟩, ⟨by (with_reducible repeat (first | apply Kd.R_alloc | apply Kd.R_drewN | apply Kd.R_drew)); exact Kd.R_mono HO_8.out (fun _ hk => hk.2)⟩, ⟨by (with_reducible repeat (first | apply Kd.R_alloc | apply Kd.R_drewN | apply Kd.R_drew)); exact HO_13.out⟩, ⟨by (with_reducible repeat (first | apply Kd.R_alloc | apply Kd.R_drewN | apply Kd.R_drew)); exact Kd.R_mono HO227.out (fun _ hk => hk.2)⟩, ⟨by repeat (first | (with_reducible first | exact HB.out | apply below_alloc | apply pw_below_drewN | apply below_drew1) | exact HB.out)⟩⟩
                                                        · rw [if_neg c49] at H
                                                          have c49b0 : (((rd_T32 t211 a1).f0) == 4) = false := beq_eq_false_iff_ne.mpr c49
                                                          have c49b1 : (((rd_T32 t211 a1).f0) != 4) = true := bne_iff_ne.mpr c49
                                                          have H' := Aside0.mk H
                                                          clear H
                                                          have p228 : 0 ≤ (a1 : Int) := of_decide_eq_true (by first | (with_reducible assumption) | assumption)
                                                          have q228 : a1 < (t211.length : Int) := of_decide_eq_true (by first | (with_reducible assumption) | assumption)
                                                          obtain ⟨ad228, e228, hx228_0, hx228_1, hx228_2⟩ := at_T32 (Kd.R_reads' HO_8.out).2.2 a1 p228 q228
                                                          obtain rfl : ad221 = ad228 := (by injection e228)
                                                          replace p228 := eq_true p228
                                                          replace q228 := eq_true q228
                                                          go_wp2
                                                          go_meet
                                                          case rel => exact ⟨_, (false), (by first | rfl | (simp; done) | (simp [*]; done)), H', ⟨by have := HJ4.out; have := HJ9.out; have := HK3.out; have := HK4.out; have := HK5.out; first | omega | exact Nat.le_refl _⟩, ⟨by (with_reducible repeat (first | apply Kd.R_alloc | apply Kd.R_drewN | apply Kd.R_drew)); exact Kd.R_mono HO_8.out (fun _ hk => hk.2)⟩, ⟨by (with_reducible repeat (first | apply Kd.R_alloc | apply Kd.R_drewN | apply Kd.R_drew)); exact HO_13.out⟩, ⟨by (with_reducible repeat (first | apply Kd.R_alloc | apply Kd.R_drewN | apply Kd.R_drew)); exact Kd.R_mono HO227.out (fun _ hk => hk.2)⟩, ⟨by repeat (first | (with_reducible first | exact HB.out | apply below_alloc | apply pw_below_drewN | apply below_drew1) | exact HB.out)⟩⟩
                                                      · rw [if_neg c48] at H
                                                        exact absurd H (by simp)
                                                    · rw [if_neg c47] at H
                                                      exact absurd H (by simp)
                                                  case rest =>
                                                    clear HC43
                                                    try clear c1
                                                    try clear c2
                                                    try clear p2
                                                    try clear q2
                                                    try clear hx2
                                                    try clear c3
                                                    try clear c4
                                                    try clear c5
                                                    try clear p6
                                                    try clear c7
                                                    try clear c7b0
                                                    try clear c7b1
                                                    try clear c8
                                                    try clear c10
                                                    try clear c12
                                                    try clear c12b0
                                                    try clear c12b1
                                                    try clear c13
                                                    try clear c13b0
                                                    try clear c15
                                                    try clear c16
                                                    try clear c16b0
                                                    try clear c17
                                                    try clear c17b0
                                                    try clear c18
                                                    try clear c18b0
                                                    try clear c20
                                                    try clear c20b0
                                                    try clear p21
                                                    try clear q21
                                                    try clear hx21
                                                    try clear p22
                                                    try clear q22
                                                    try clear hx22
                                                    try clear c24
                                                    try clear c24b0
                                                    try clear c25
                                                    try clear c25b0
                                                    try clear p26
                                                    try clear q26
                                                    try clear hx26
                                                    try clear c27
                                                    try clear c27b0
                                                    try clear c27b1
                                                    try clear c28
                                                    try clear c28b0
                                                    try clear c28b1
                                                    try clear c28b2
                                                    try clear c29
                                                    try clear c29b0
                                                    try clear c29b1
                                                    try clear c29b2
                                                    try clear c30
                                                    try clear c30b0
                                                    try clear c31
                                                    try clear c31b0
                                                    try clear c34
                                                    try clear c34b0
                                                    try clear c35
                                                    try clear c35b0
                                                    try clear c35b1
                                                    try clear c36
                                                    try clear c36b0
                                                    try clear c36b1
                                                    try clear c37
                                                    try clear c37b0
                                                    try clear c38
                                                    try clear c38b0
                                                    try clear c38b1
                                                    try clear c38b2
                                                    try clear c39
                                                    try clear c39b0
                                                    try clear c40
                                                    try clear c40b0
                                                    try clear c41
                                                    try clear c41b0
                                                    try clear c41b1
                                                    try clear c41b2
                                                    try clear c47
                                                    try clear c47b0
                                                    try clear c48
                                                    try clear c48b0
                                                    try clear c49
                                                    try clear c49b0
                                                    try clear c49b1
                                                    try clear hx216_0
                                                    try clear hx216_1
                                                    try clear hx216_2
                                                    try clear hx217_0
                                                    try clear hx217_1
                                                    try clear hx217_2
                                                    try clear hx221_0
                                                    try clear hx221_1
                                                    try clear hx221_2
                                                    try clear hx222_0
                                                    try clear hx228_0
                                                    try clear hx228_1
                                                    try clear hx228_2
                                                    try clear p2
                                                    try clear p21
                                                    try clear p216
                                                    try clear p217
                                                    try clear p22
                                                    try clear p221
                                                    try clear p222
                                                    try clear p228
                                                    try clear p26
                                                    try clear p6
                                                    try clear q2
                                                    try clear q21
                                                    try clear q216
                                                    try clear q217
                                                    try clear q22
                                                    try clear q221
                                                    try clear q222
                                                    try clear q228
                                                    try clear q26
                                                    obtain ⟨kq, x125_42, rfl, HA, HJ42, HO_8, HO_13, HO_16, HB⟩ := hcut
                                                    cases kq with
                                                    | zero => exact absurd HA.out (by simp [bournelaw13_LexSpaces.j5])
                                                    | succ kj42 =>
                                                      have H := HA.out
                                                      clear HA
                                                      simp only [bournelaw13_LexSpaces.j5] at H
                                                      by_cases c52 : x125_42 = true
                                                      · subst c52
                                                        have H1 : (bournelaw13_LexSpaces.l2 kj42 a0 a1 t210 t211 y218 ((rd_T32 t211 a1).f2) (wrap64 (x15_5 + 1))) = some r := by rw [if_pos rfl] at H; exact H
                                                        clear H
                                                        have H := H1
                                                        clear H1
                                                        have H' := Aside0.mk H
                                                        clear H
                                                        go_wp2
                                                        go_roundg kj42
                                                        case measure => have := HJ4.out; have := HJ9.out; have := HK3.out; have := HK4.out; have := HK5.out; have := HJ42.out; omega
                                                        case rel => exact ⟨(wrap64 (x15_5 + 1)), (by first | rfl | (simp; done) | (simp [*]; done)), H', ⟨by have := HJ4.out; have := HJ9.out; have := HK3.out; have := HK4.out; have := HK5.out; have := HJ42.out; omega⟩, ⟨by (with_reducible repeat (first | apply Kd.R_alloc | apply Kd.R_drewN | apply Kd.R_drew)); exact Kd.R_mono HO_8.out (fun _ hk => trivial)⟩, ⟨by (with_reducible repeat (first | apply Kd.R_alloc | apply Kd.R_drewN | apply Kd.R_drew)); exact HO_13.out⟩, ⟨by repeat (first | (with_reducible first | exact HB.out | apply below_alloc | apply pw_below_drewN | apply below_drew1) | exact HB.out)⟩⟩
                                                      · replace c52 := Bool.eq_false_iff.mpr c52
                                                        subst c52
                                                        have H1 : (if t224 = 0 then ((bourneref13_Same.f kj42 t211 t223 false).bind fun t230 => (bournelaw13_LexSpaces.j6 kj42 a0 a1 t210 t211 y218 ((rd_T32 t211 a1).f2) x15_5 t223 (!t230))) else (bournelaw13_LexSpaces.j6 kj42 a0 a1 t210 t211 y218 ((rd_T32 t211 a1).f2) x15_5 t223 true)) = some r := by rw [if_neg (show ¬ (false = true) by decide)] at H; exact H
                                                        clear H
                                                        have H := H1
                                                        clear H1
                                                        have HC53 := Aside0.mk H
                                                        clear H
                                                        go_upto_region 24 with (fail)
                                                        go_cut [133] (fun v133 wc => ∃ (kq : Nat) (x133_52 : Bool), v133 = .bool x133_52 ∧ Aside0 (bournelaw13_LexSpaces.j6 kq a0 a1 t210 t211 y218 ((rd_T32 t211 a1).f2) x15_5 t223 x133_52 = some r) ∧ Aside0 (kq ≤ kj42) ∧ Aside0 (Kd.R k32 32 wc w.heap.size (fun k_ => some k_ ≠ (v226 : Value).ownBlock) (.slice (some ad221) t211.length co23) t211) ∧ Aside0 (Kd.R Kd.string 9 wc w.heap.size (fun _ => True) (.slice (some ad222) y218.length co44) y218) ∧ Aside0 (Kd.R k32 32 wc w.heap.size (fun k_ => some k_ ≠ ((.slice (some ad221) t211.length co23) : Value).ownBlock) v226 t223) ∧ Aside0 (Below w.heap.size w wc))
                                                        case first =>
                                                          have H := HC53.out
                                                          clear HC53
                                                          by_cases c54 : t224 = 0
                                                          · rw [if_pos c54] at H
                                                            have c54b0 : (t224 == 0) = true := beq_iff_eq.mpr c54
                                                            have c54b1 : (t224 != 0) = false := bne_eq_false_iff_eq.mpr c54
                                                            clear c54
                                                            (first | rw [c54b0] | (simp only [i64_w, i32_w]; rw [c54b0]) | skip)
                                                            replace H := Option.bind_eq_some_iff.mp H
                                                            obtain ⟨t230, A550, H⟩ := H
                                                            replace H : (bournelaw13_LexSpaces.j6 kj42 a0 a1 t210 t211 y218 ((rd_T32 t211 a1).f2) x15_5 t223 (!t230)) = some r := H
                                                            have A55 := Aside0.mk A550
                                                            clear A550
                                                            have H' := Aside0.mk H
                                                            clear H
                                                            obtain ⟨Ao56, co56, eo56⟩ := Kd.R_slice HO_16.out
                                                            subst eo56
                                                            go_wp2_with (first | (go_at_call 12; (with_reducible refine (bourneref13_Same.calls kj42 _ _ t211 _ _ t223 false t230 _ ?side1 ?side2 ?side3 ?side4 A55.out).mono ?_); (case side1 => repeat (first | exact (Kd.R_reads' HO_8.out).2.2 | (with_reducible refine Kd.C_alloc ?_ _) | (with_reducible refine Kd.C_drewN ?_ _) | (with_reducible refine Kd.C_drew ?_))); (case side2 => exact (Kd.R_reads' HO_8.out).2.1); (case side3 => repeat (first | exact (Kd.R_reads' HO_16.out).2.2 | (with_reducible refine Kd.C_alloc ?_ _) | (with_reducible refine Kd.C_drewN ?_ _) | (with_reducible refine Kd.C_drew ?_))); (case side4 => exact (Kd.R_reads' HO_16.out).2.1); rintro e w' ⟨rfl, ⟨nd, rfl⟩⟩))
                                                            go_meet
                                                            case rel => exact ⟨_, (!t230), (by first | rfl | (simp; done) | (simp [*]; done)), H', ⟨by have := HJ4.out; have := HJ9.out; have := HK3.out; have := HK4.out; have := HK5.out; have := HJ42.out; first | omega | exact Nat.le_refl _⟩, ⟨by (with_reducible repeat (first | apply Kd.R_alloc | apply Kd.R_drewN | apply Kd.R_drew)); exact HO_8.out⟩, ⟨by (with_reducible repeat (first | apply Kd.R_alloc | apply Kd.R_drewN | apply Kd.R_drew)); exact HO_13.out⟩, ⟨by (with_reducible repeat (first | apply Kd.R_alloc | apply Kd.R_drewN | apply Kd.R_drew)); exact HO_16.out⟩, ⟨by repeat (first | (with_reducible first | exact HB.out | apply below_alloc | apply pw_below_drewN | apply below_drew1) | exact HB.out)⟩⟩
                                                          · rw [if_neg c54] at H
                                                            have c54b0 : (t224 == 0) = false := beq_eq_false_iff_ne.mpr c54
                                                            have c54b1 : (t224 != 0) = true := bne_iff_ne.mpr c54
                                                            (first | rw [c54b0] | (simp only [i64_w, i32_w]; rw [c54b0]) | skip)
                                                            have H' := Aside0.mk H
                                                            clear H
                                                            go_wp2
                                                            go_meet
                                                            case rel => exact ⟨_, (true), (by first | rfl | (simp; done) | (simp [*]; done)), H', ⟨by have := HJ4.out; have := HJ9.out; have := HK3.out; have := HK4.out; have := HK5.out; have := HJ42.out; first | omega | exact Nat.le_refl _⟩, ⟨by (with_reducible repeat (first | apply Kd.R_alloc | apply Kd.R_drewN | apply Kd.R_drew)); exact HO_8.out⟩, ⟨by (with_reducible repeat (first | apply Kd.R_alloc | apply Kd.R_drewN | apply Kd.R_drew)); exact HO_13.out⟩, ⟨by (with_reducible repeat (first | apply Kd.R_alloc | apply Kd.R_drewN | apply Kd.R_drew)); exact HO_16.out⟩, ⟨by repeat (first | (with_reducible first | exact HB.out | apply below_alloc | apply pw_below_drewN | apply below_drew1) | exact HB.out)⟩⟩
                                                        case rest =>
                                                          clear HC53
                                                          try clear c1
                                                          try clear c2
                                                          try clear p2
                                                          try clear q2
                                                          try clear hx2
                                                          try clear c3
                                                          try clear c4
                                                          try clear c5
                                                          try clear p6
                                                          try clear c7
                                                          try clear c7b0
                                                          try clear c7b1
                                                          try clear c8
                                                          try clear c10
                                                          try clear c12
                                                          try clear c12b0
                                                          try clear c12b1
                                                          try clear c13
                                                          try clear c13b0
                                                          try clear c15
                                                          try clear c16
                                                          try clear c16b0
                                                          try clear c17
                                                          try clear c17b0
                                                          try clear c18
                                                          try clear c18b0
                                                          try clear c20
                                                          try clear c20b0
                                                          try clear p21
                                                          try clear q21
                                                          try clear hx21
                                                          try clear p22
                                                          try clear q22
                                                          try clear hx22
                                                          try clear c24
                                                          try clear c24b0
                                                          try clear c25
                                                          try clear c25b0
                                                          try clear p26
                                                          try clear q26
                                                          try clear hx26
                                                          try clear c27
                                                          try clear c27b0
                                                          try clear c27b1
                                                          try clear c28
                                                          try clear c28b0
                                                          try clear c28b1
                                                          try clear c28b2
                                                          try clear c29
                                                          try clear c29b0
                                                          try clear c29b1
                                                          try clear c29b2
                                                          try clear c30
                                                          try clear c30b0
                                                          try clear c31
                                                          try clear c31b0
                                                          try clear c34
                                                          try clear c34b0
                                                          try clear c35
                                                          try clear c35b0
                                                          try clear c35b1
                                                          try clear c36
                                                          try clear c36b0
                                                          try clear c36b1
                                                          try clear c37
                                                          try clear c37b0
                                                          try clear c38
                                                          try clear c38b0
                                                          try clear c38b1
                                                          try clear c38b2
                                                          try clear c39
                                                          try clear c39b0
                                                          try clear c40
                                                          try clear c40b0
                                                          try clear c41
                                                          try clear c41b0
                                                          try clear c41b1
                                                          try clear c41b2
                                                          try clear c47
                                                          try clear c47b0
                                                          try clear c48
                                                          try clear c48b0
                                                          try clear c49
                                                          try clear c49b0
                                                          try clear c49b1
                                                          try clear c52
                                                          try clear c54
                                                          try clear c54b0
                                                          try clear c54b1
                                                          try clear hx216_0
                                                          try clear hx216_1
                                                          try clear hx216_2
                                                          try clear hx217_0
                                                          try clear hx217_1
                                                          try clear hx217_2
                                                          try clear hx221_0
                                                          try clear hx221_1
                                                          try clear hx221_2
                                                          try clear hx222_0
                                                          try clear hx228_0
                                                          try clear hx228_1
                                                          try clear hx228_2
                                                          try clear p2
                                                          try clear p21
                                                          try clear p216
                                                          try clear p217
                                                          try clear p22
                                                          try clear p221
                                                          try clear p222
                                                          try clear p228
                                                          try clear p26
                                                          try clear p6
                                                          try clear q2
                                                          try clear q21
                                                          try clear q216
                                                          try clear q217
                                                          try clear q22
                                                          try clear q221
                                                          try clear q222
                                                          try clear q228
                                                          try clear q26
                                                          obtain ⟨kq, x133_52, rfl, HA, HJ52, HO_8, HO_13, HO_16, HB⟩ := hcut
                                                          cases kq with
                                                          | zero => exact absurd HA.out (by simp [bournelaw13_LexSpaces.j6])
                                                          | succ kj52 =>
                                                            have H := HA.out
                                                            clear HA
                                                            simp only [bournelaw13_LexSpaces.j6] at H
                                                            by_cases c57 : x133_52 = true
                                                            · subst c57
                                                              have H1 : (some false) = some r := by rw [if_pos rfl] at H; exact H
                                                              clear H
                                                              have H := H1
                                                              clear H1
                                                              obtain rfl := Option.some.inj H
                                                              go_wp2
                                                              go_ret
                                                              exact ⟨by first | rfl | (simp [errW_none, errW_some] <;> rfl) | (simp [*, errW_none, errW_some] <;> rfl), by repeat (first | (with_reducible first | exact HB.out | apply below_alloc | apply pw_below_drewN | apply below_drew1) | exact HB.out)⟩
                                                            · replace c57 := Bool.eq_false_iff.mpr c57
                                                              subst c57
                                                              have H1 : (bournelaw13_LexSpaces.l3 kj52 a0 a1 t210 t211 y218 ((rd_T32 t211 a1).f2) x15_5 t223 0) = some r := by rw [if_neg (show ¬ (false = true) by decide)] at H; exact H
                                                              clear H
                                                              have H := H1
                                                              clear H1
                                                              have H' := Aside0.mk H
                                                              clear H
                                                              go_wp2
                                                              go_loopg [19] kj52 (fun kq v19 w' => ∃ (x19_8 : Int), v19 = .int .i64 x19_8 ∧ Aside0 (bournelaw13_LexSpaces.l3 kq a0 a1 t210 t211 y218 ((rd_T32 t211 a1).f2) x15_5 t223 x19_8 = some r) ∧ Aside0 (kq ≤ kj52) ∧ Aside0 (Kd.R k32 32 w' w.heap.size (fun k_ => some k_ ≠ (v226 : Value).ownBlock) (.slice (some ad221) t211.length co23) t211) ∧ Aside0 (Kd.R Kd.string 9 w' w.heap.size (fun _ => True) (.slice (some ad222) y218.length co44) y218) ∧ Aside0 (Kd.R k32 32 w' w.heap.size (fun k_ => some k_ ≠ ((.slice (some ad221) t211.length co23) : Value).ownBlock) v226 t223) ∧ Aside0 (Below w.heap.size w w'))
                                                              case atStart => exact ⟨(0), (by first | rfl | (simp; done) | (simp [*]; done)), H', ⟨Nat.le_refl _⟩, ⟨by (with_reducible repeat (first | apply Kd.R_alloc | apply Kd.R_drewN | apply Kd.R_drew)); exact HO_8.out⟩, ⟨by (with_reducible repeat (first | apply Kd.R_alloc | apply Kd.R_drewN | apply Kd.R_drew)); exact HO_13.out⟩, ⟨by (with_reducible repeat (first | apply Kd.R_alloc | apply Kd.R_drewN | apply Kd.R_drew)); exact HO_16.out⟩, ⟨by repeat (first | (with_reducible first | exact HB.out | apply below_alloc | apply pw_below_drewN | apply below_drew1) | exact HB.out)⟩⟩
                                                              case round =>
                                                                clear H'
                                                                try clear c1
                                                                try clear c2
                                                                try clear p2
                                                                try clear q2
                                                                try clear hx2
                                                                try clear c3
                                                                try clear c4
                                                                try clear c5
                                                                try clear p6
                                                                try clear c7
                                                                try clear c7b0
                                                                try clear c7b1
                                                                try clear c8
                                                                try clear c10
                                                                try clear c12
                                                                try clear c12b0
                                                                try clear c12b1
                                                                try clear c13
                                                                try clear c13b0
                                                                try clear c15
                                                                try clear c16
                                                                try clear c16b0
                                                                try clear c17
                                                                try clear c17b0
                                                                try clear c18
                                                                try clear c18b0
                                                                try clear c20
                                                                try clear c20b0
                                                                try clear p21
                                                                try clear q21
                                                                try clear hx21
                                                                try clear p22
                                                                try clear q22
                                                                try clear hx22
                                                                try clear c24
                                                                try clear c24b0
                                                                try clear c25
                                                                try clear c25b0
                                                                try clear p26
                                                                try clear q26
                                                                try clear hx26
                                                                try clear c27
                                                                try clear c27b0
                                                                try clear c27b1
                                                                try clear c28
                                                                try clear c28b0
                                                                try clear c28b1
                                                                try clear c28b2
                                                                try clear c29
                                                                try clear c29b0
                                                                try clear c29b1
                                                                try clear c29b2
                                                                try clear c30
                                                                try clear c30b0
                                                                try clear c31
                                                                try clear c31b0
                                                                try clear c34
                                                                try clear c34b0
                                                                try clear c35
                                                                try clear c35b0
                                                                try clear c35b1
                                                                try clear c36
                                                                try clear c36b0
                                                                try clear c36b1
                                                                try clear c37
                                                                try clear c37b0
                                                                try clear c38
                                                                try clear c38b0
                                                                try clear c38b1
                                                                try clear c38b2
                                                                try clear c39
                                                                try clear c39b0
                                                                try clear c40
                                                                try clear c40b0
                                                                try clear c41
                                                                try clear c41b0
                                                                try clear c41b1
                                                                try clear c41b2
                                                                try clear c47
                                                                try clear c47b0
                                                                try clear c48
                                                                try clear c48b0
                                                                try clear c49
                                                                try clear c49b0
                                                                try clear c49b1
                                                                try clear c52
                                                                try clear c54
                                                                try clear c54b0
                                                                try clear c54b1
                                                                try clear c57
                                                                try clear hx216_0
                                                                try clear hx216_1
                                                                try clear hx216_2
                                                                try clear hx217_0
                                                                try clear hx217_1
                                                                try clear hx217_2
                                                                try clear hx221_0
                                                                try clear hx221_1
                                                                try clear hx221_2
                                                                try clear hx222_0
                                                                try clear hx228_0
                                                                try clear hx228_1
                                                                try clear hx228_2
                                                                try clear p2
                                                                try clear p21
                                                                try clear p216
                                                                try clear p217
                                                                try clear p22
                                                                try clear p221
                                                                try clear p222
                                                                try clear p228
                                                                try clear p26
                                                                try clear p6
                                                                try clear q2
                                                                try clear q21
                                                                try clear q216
                                                                try clear q217
                                                                try clear q22
                                                                try clear q221
                                                                try clear q222
                                                                try clear q228
                                                                try clear q26
                                                                obtain ⟨x19_8, rfl, HA, HK8, HO_8, HO_13, HO_16, HB⟩ := hrel
                                                                cases gk with
                                                                | zero => exact absurd HA.out (by simp [bournelaw13_LexSpaces.l3])
                                                                | succ k8 =>
                                                                  have H := HA.out
                                                                  clear HA
                                                                  simp only [bournelaw13_LexSpaces.l3] at H
                                                                  by_cases c58 : x19_8 < (t211.length : Int)
                                                                  · rw [if_pos c58] at H
                                                                    have c58b0 : decide (x19_8 < (t211.length : Int)) = true := decide_eq_true c58
                                                                    clear c58
                                                                    by_cases c59 : 0 ≤ x19_8
                                                                    · rw [if_pos c59] at H
                                                                      have c59b0 : decide (0 ≤ x19_8) = true := decide_eq_true c59
                                                                      clear c59
                                                                      by_cases c60 : x19_8 ≥ a1
                                                                      · rw [if_pos c60] at H
                                                                        have c60b0 : decide (a1 ≤ x19_8) = true := decide_eq_true c60
                                                                        clear c60
                                                                        by_cases c61 : 0 ≤ x15_5
                                                                        · rw [if_pos c61] at H
                                                                          have c61b0 : decide (0 ≤ x15_5) = true := decide_eq_true c61
                                                                          clear c61
                                                                          by_cases c62 : x15_5 < (y218.length : Int)
                                                                          · rw [if_pos c62] at H
                                                                            have c62b0 : decide (x15_5 < (y218.length : Int)) = true := decide_eq_true c62
                                                                            clear c62
                                                                            by_cases c63 : x19_8 < (t223.length : Int)
                                                                            · rw [if_pos c63] at H
                                                                              have c63b0 : decide (x19_8 < (t223.length : Int)) = true := decide_eq_true c63
                                                                              clear c63
                                                                              by_cases c64 : ((rd_T32 t223 x19_8).f2) = (wrap64 (((rd_T32 t211 x19_8).f2) + ((rdOf ByteArray.empty y218 x15_5).size : Int)))
                                                                              · rw [if_pos c64] at H
                                                                                have c64b0 : (((rd_T32 t223 x19_8).f2) == (wrap64 (((rd_T32 t211 x19_8).f2) + ((rdOf ByteArray.empty y218 x15_5).size : Int)))) = true := beq_iff_eq.mpr c64
                                                                                have c64b1 : (((rd_T32 t223 x19_8).f2) != (wrap64 (((rd_T32 t211 x19_8).f2) + ((rdOf ByteArray.empty y218 x15_5).size : Int)))) = false := bne_eq_false_iff_eq.mpr c64
                                                                                clear c64
                                                                                have H' := Aside0.mk H
                                                                                clear H
                                                                                have p231 : 0 ≤ (x19_8 : Int) := of_decide_eq_true (by first | (with_reducible assumption) | assumption)
                                                                                have q231 : x19_8 < (t211.length : Int) := of_decide_eq_true (by first | (with_reducible assumption) | assumption)
                                                                                obtain ⟨ad231, e231, hx231_0, hx231_1, hx231_2⟩ := at_T32 (Kd.R_reads' HO_8.out).2.2 x19_8 p231 q231
                                                                                obtain rfl : ad221 = ad231 := (by injection e231)
                                                                                replace p231 := eq_true p231
                                                                                replace q231 := eq_true q231
                                                                                have p232 : 0 ≤ (x15_5 : Int) := of_decide_eq_true (by first | (with_reducible assumption) | assumption)
                                                                                have q232 : x15_5 < (y218.length : Int) := of_decide_eq_true (by first | (with_reducible assumption) | assumption)
                                                                                obtain ⟨ad232, e232, hx232_0⟩ := Kd.at_string (Kd.R_reads' HO_13.out).2.2 x15_5 p232 q232
                                                                                obtain rfl : ad222 = ad232 := (by injection e232)
                                                                                replace p232 := eq_true p232
                                                                                replace q232 := eq_true q232
                                                                                obtain ⟨Ao65, co65, eo65⟩ := Kd.R_slice HO_16.out
                                                                                subst eo65
                                                                                have p233 : 0 ≤ (x19_8 : Int) := of_decide_eq_true (by first | (with_reducible assumption) | assumption)
                                                                                have q233 : x19_8 < (t223.length : Int) := of_decide_eq_true (by first | (with_reducible assumption) | assumption)
                                                                                obtain ⟨ad233, e233, hx233_0, hx233_1, hx233_2⟩ := at_T32 (Kd.R_reads' HO_16.out).2.2 x19_8 p233 q233
                                                                                cases e233
                                                                                replace p233 := eq_true p233
                                                                                replace q233 := eq_true q233
                                                                                go_wp2
                                                                                go_roundg k8
                                                                                case measure => have := HJ4.out; have := HJ9.out; have := HK3.out; have := HK4.out; have := HK5.out; have := HJ42.out; have := HJ52.out; have := HK8.out; omega
                                                                                case rel => exact ⟨(wrap64 (x19_8 + 1)), (by first | rfl | (simp; done) | (simp [*]; done)), H', ⟨by have := HJ4.out; have := HJ9.out; have := HK3.out; have := HK4.out; have := HK5.out; have := HJ42.out; have := HJ52.out; have := HK8.out; omega⟩, ⟨by (with_reducible repeat (first | apply Kd.R_alloc | apply Kd.R_drewN | apply Kd.R_drew)); exact HO_8.out⟩, ⟨by (with_reducible repeat (first | apply Kd.R_alloc | apply Kd.R_drewN | apply Kd.R_drew)); exact HO_13.out⟩, ⟨by (with_reducible repeat (first | apply Kd.R_alloc | apply Kd.R_drewN | apply Kd.R_drew)); exact HO_16.out⟩, ⟨by repeat (first | (with_reducible first | exact HB.out | apply below_alloc | apply pw_below_drewN | apply below_drew1) | exact HB.out)⟩⟩
                                                                              · rw [if_neg c64] at H
                                                                                have c64b0 : (((rd_T32 t223 x19_8).f2) == (wrap64 (((rd_T32 t211 x19_8).f2) + ((rdOf ByteArray.empty y218 x15_5).size : Int)))) = false := beq_eq_false_iff_ne.mpr c64
                                                                                have c64b1 : (((rd_T32 t223 x19_8).f2) != (wrap64 (((rd_T32 t211 x19_8).f2) + ((rdOf ByteArray.empty y218 x15_5).size : Int)))) = true := bne_iff_ne.mpr c64
                                                                                obtain rfl := Option.some.inj H
                                                                                have p231 : 0 ≤ (x19_8 : Int) := of_decide_eq_true (by first | (with_reducible assumption) | assumption)
                                                                                have q231 : x19_8 < (t211.length : Int) := of_decide_eq_true (by first | (with_reducible assumption) | assumption)
                                                                                obtain ⟨ad231, e231, hx231_0, hx231_1, hx231_2⟩ := at_T32 (Kd.R_reads' HO_8.out).2.2 x19_8 p231 q231
                                                                                obtain rfl : ad221 = ad231 := (by injection e231)
                                                                                replace p231 := eq_true p231
                                                                                replace q231 := eq_true q231
                                                                                have p232 : 0 ≤ (x15_5 : Int) := of_decide_eq_true (by first | (with_reducible assumption) | assumption)
                                                                                have q232 : x15_5 < (y218.length : Int) := of_decide_eq_true (by first | (with_reducible assumption) | assumption)
                                                                                obtain ⟨ad232, e232, hx232_0⟩ := Kd.at_string (Kd.R_reads' HO_13.out).2.2 x15_5 p232 q232
                                                                                obtain rfl : ad222 = ad232 := (by injection e232)
                                                                                replace p232 := eq_true p232
                                                                                replace q232 := eq_true q232
                                                                                obtain ⟨Ao66, co66, eo66⟩ := Kd.R_slice HO_16.out
                                                                                subst eo66
                                                                                have p233 : 0 ≤ (x19_8 : Int) := of_decide_eq_true (by first | (with_reducible assumption) | assumption)
                                                                                have q233 : x19_8 < (t223.length : Int) := of_decide_eq_true (by first | (with_reducible assumption) | assumption)
                                                                                obtain ⟨ad233, e233, hx233_0, hx233_1, hx233_2⟩ := at_T32 (Kd.R_reads' HO_16.out).2.2 x19_8 p233 q233
                                                                                cases e233
                                                                                replace p233 := eq_true p233
                                                                                replace q233 := eq_true q233
                                                                                go_wp2
                                                                                go_ret
                                                                                exact ⟨by first | rfl | (simp [errW_none, errW_some] <;> rfl) | (simp [*, errW_none, errW_some] <;> rfl), by repeat (first | (with_reducible first | exact HB.out | apply below_alloc | apply pw_below_drewN | apply below_drew1) | exact HB.out)⟩
                                                                            · rw [if_neg c63] at H
                                                                              exact absurd H (by simp)
                                                                          · rw [if_neg c62] at H
                                                                            exact absurd H (by simp)
                                                                        · rw [if_neg c61] at H
                                                                          exact absurd H (by simp)
                                                                      · rw [if_neg c60] at H
                                                                        have c60b0 : decide (a1 ≤ x19_8) = false := decide_eq_false c60
                                                                        clear c60
                                                                        by_cases c67 : x19_8 < (t223.length : Int)
                                                                        · rw [if_pos c67] at H
                                                                          have c67b0 : decide (x19_8 < (t223.length : Int)) = true := decide_eq_true c67
                                                                          clear c67
                                                                          by_cases c68 : ((rd_T32 t223 x19_8).f2) = ((rd_T32 t211 x19_8).f2)
                                                                          · rw [if_pos c68] at H
                                                                            have c68b0 : (((rd_T32 t223 x19_8).f2) == ((rd_T32 t211 x19_8).f2)) = true := beq_iff_eq.mpr c68
                                                                            have c68b1 : (((rd_T32 t223 x19_8).f2) != ((rd_T32 t211 x19_8).f2)) = false := bne_eq_false_iff_eq.mpr c68
                                                                            clear c68
                                                                            have H' := Aside0.mk H
                                                                            clear H
                                                                            have p231 : 0 ≤ (x19_8 : Int) := of_decide_eq_true (by first | (with_reducible assumption) | assumption)
                                                                            have q231 : x19_8 < (t211.length : Int) := of_decide_eq_true (by first | (with_reducible assumption) | assumption)
                                                                            obtain ⟨ad231, e231, hx231_0, hx231_1, hx231_2⟩ := at_T32 (Kd.R_reads' HO_8.out).2.2 x19_8 p231 q231
                                                                            obtain rfl : ad221 = ad231 := (by injection e231)
                                                                            replace p231 := eq_true p231
                                                                            replace q231 := eq_true q231
                                                                            obtain ⟨Ao69, co69, eo69⟩ := Kd.R_slice HO_16.out
                                                                            subst eo69
                                                                            have p234 : 0 ≤ (x19_8 : Int) := of_decide_eq_true (by first | (with_reducible assumption) | assumption)
                                                                            have q234 : x19_8 < (t223.length : Int) := of_decide_eq_true (by first | (with_reducible assumption) | assumption)
                                                                            obtain ⟨ad234, e234, hx234_0, hx234_1, hx234_2⟩ := at_T32 (Kd.R_reads' HO_16.out).2.2 x19_8 p234 q234
                                                                            cases e234
                                                                            replace p234 := eq_true p234
                                                                            replace q234 := eq_true q234
                                                                            go_wp2
                                                                            go_roundg k8
                                                                            case measure => have := HJ4.out; have := HJ9.out; have := HK3.out; have := HK4.out; have := HK5.out; have := HJ42.out; have := HJ52.out; have := HK8.out; omega
                                                                            case rel => exact ⟨(wrap64 (x19_8 + 1)), (by first | rfl | (simp; done) | (simp [*]; done)), H', ⟨by have := HJ4.out; have := HJ9.out; have := HK3.out; have := HK4.out; have := HK5.out; have := HJ42.out; have := HJ52.out; have := HK8.out; omega⟩, ⟨by (with_reducible repeat (first | apply Kd.R_alloc | apply Kd.R_drewN | apply Kd.R_drew)); exact HO_8.out⟩, ⟨by (with_reducible repeat (first | apply Kd.R_alloc | apply Kd.R_drewN | apply Kd.R_drew)); exact HO_13.out⟩, ⟨by (with_reducible repeat (first | apply Kd.R_alloc | apply Kd.R_drewN | apply Kd.R_drew)); exact HO_16.out⟩, ⟨by repeat (first | (with_reducible first | exact HB.out | apply below_alloc | apply pw_below_drewN | apply below_drew1) | exact HB.out)⟩⟩
                                                                          · rw [if_neg c68] at H
                                                                            have c68b0 : (((rd_T32 t223 x19_8).f2) == ((rd_T32 t211 x19_8).f2)) = false := beq_eq_false_iff_ne.mpr c68
                                                                            have c68b1 : (((rd_T32 t223 x19_8).f2) != ((rd_T32 t211 x19_8).f2)) = true := bne_iff_ne.mpr c68
                                                                            obtain rfl := Option.some.inj H
                                                                            have p231 : 0 ≤ (x19_8 : Int) := of_decide_eq_true (by first | (with_reducible assumption) | assumption)
                                                                            have q231 : x19_8 < (t211.length : Int) := of_decide_eq_true (by first | (with_reducible assumption) | assumption)
                                                                            obtain ⟨ad231, e231, hx231_0, hx231_1, hx231_2⟩ := at_T32 (Kd.R_reads' HO_8.out).2.2 x19_8 p231 q231
                                                                            obtain rfl : ad221 = ad231 := (by injection e231)
                                                                            replace p231 := eq_true p231
                                                                            replace q231 := eq_true q231
                                                                            obtain ⟨Ao70, co70, eo70⟩ := Kd.R_slice HO_16.out
                                                                            subst eo70
                                                                            have p234 : 0 ≤ (x19_8 : Int) := of_decide_eq_true (by first | (with_reducible assumption) | assumption)
                                                                            have q234 : x19_8 < (t223.length : Int) := of_decide_eq_true (by first | (with_reducible assumption) | assumption)
                                                                            obtain ⟨ad234, e234, hx234_0, hx234_1, hx234_2⟩ := at_T32 (Kd.R_reads' HO_16.out).2.2 x19_8 p234 q234
                                                                            cases e234
                                                                            replace p234 := eq_true p234
                                                                            replace q234 := eq_true q234
                                                                            go_wp2
                                                                            go_ret
                                                                            exact ⟨by first | rfl | (simp [errW_none, errW_some] <;> rfl) | (simp [*, errW_none, errW_some] <;> rfl), by repeat (first | (with_reducible first | exact HB.out | apply below_alloc | apply pw_below_drewN | apply below_drew1) | exact HB.out)⟩
                                                                        · rw [if_neg c67] at H
                                                                          exact absurd H (by simp)
                                                                    · rw [if_neg c59] at H
                                                                      exact absurd H (by simp)
                                                                  · rw [if_neg c58] at H
                                                                    have c58b0 : decide (x19_8 < (t211.length : Int)) = false := decide_eq_false c58
                                                                    clear c58
                                                                    have H' := Aside0.mk H
                                                                    clear H
                                                                    go_wp2
                                                                    go_roundg k8
                                                                    case measure => have := HJ4.out; have := HJ9.out; have := HK3.out; have := HK4.out; have := HK5.out; have := HJ42.out; have := HJ52.out; have := HK8.out; omega
                                                                    case rel => exact ⟨(wrap64 (x15_5 + 1)), (by first | rfl | (simp; done) | (simp [*]; done)), H', ⟨by have := HJ4.out; have := HJ9.out; have := HK3.out; have := HK4.out; have := HK5.out; have := HJ42.out; have := HJ52.out; have := HK8.out; omega⟩, ⟨by (with_reducible repeat (first | apply Kd.R_alloc | apply Kd.R_drewN | apply Kd.R_drew)); exact Kd.R_mono HO_8.out (fun _ hk => trivial)⟩, ⟨by (with_reducible repeat (first | apply Kd.R_alloc | apply Kd.R_drewN | apply Kd.R_drew)); exact HO_13.out⟩, ⟨by repeat (first | (with_reducible first | exact HB.out | apply below_alloc | apply pw_below_drewN | apply below_drew1) | exact HB.out)⟩⟩
                                                · rw [if_neg c41] at H
                                                  exact absurd H (by simp)
                                              · rw [if_neg c38] at H
                                                exact absurd H (by simp)
                                            · rw [if_neg c37] at H
                                              exact absurd H (by simp)
                                          · rw [if_neg c36] at H
                                            exact absurd H (by simp)
                                        · rw [if_neg c35] at H
                                          exact absurd H (by simp)
                                      · rw [if_neg c34] at H
                                        have c34b0 : decide (x15_5 < (y218.length : Int)) = false := decide_eq_false c34
                                        clear c34
                                        obtain rfl := Option.some.inj H
                                        obtain ⟨Ao71, co71, eo71⟩ := Kd.R_slice HO_13.out
                                        subst eo71
                                        go_wp2
                                        go_ret
                                        exact ⟨by first | rfl | (simp [errW_none, errW_some] <;> rfl) | (simp [*, errW_none, errW_some] <;> rfl), by repeat (first | (with_reducible first | exact HB.out | apply below_alloc | apply pw_below_drewN | apply below_drew1) | exact HB.out)⟩
                                · rw [if_neg c31] at H
                                  exact absurd H (by simp)
                              · rw [if_neg c30] at H
                                exact absurd H (by simp)
                            · rw [if_neg c29] at H
                              exact absurd H (by simp)
                          · rw [if_neg c28] at H
                            exact absurd H (by simp)

/-- THE ONE PURE STATEMENT of bournelaw13_LexSpaces: yours. -/
def bournelaw13_LexSpaces.Pure : Prop := ∀ (a0 : ByteArray) (a1 : Int) (a2 : ByteArray), a0.size ≤ 140737488351232 → (Lit.int .i64 a1).wf = true → a2.size ≤ 140737488351232 → ∃ k, bournelaw13_LexSpaces.f k a0 a1 a2 = some true
theorem bournelaw13_LexSpaces.walk (P : bournelaw13_LexSpaces.Pure) (a0 : ByteArray) (a1 : Int) (a2 : ByteArray) (w : World) (w0 : a0.size ≤ 140737488351232) (w1 : (Lit.int .i64 a1).wf = true) (w2 : a2.size ≤ 140737488351232) :
    Calls Tryd.prog 5 #[.string a0, .int .i64 a1, .string a2] w fun e w' => e = .returned (.bool true) ∧ Below w.heap.size w w' := by
  obtain ⟨k, h⟩ := P a0 a1 a2 w0 w1 w2
  refine (bournelaw13_LexSpaces.calls k a0 a1 a2 true w h).mono ?_
  rintro e w' ⟨rfl, hd⟩
  exact ⟨rfl, hd⟩

end Go.Proofs.YtjhinmdnabmdoaaDoor.PLex
