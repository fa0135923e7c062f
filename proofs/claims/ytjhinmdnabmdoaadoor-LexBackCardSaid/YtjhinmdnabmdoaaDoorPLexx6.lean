/- Written by this session's extprint.py over the kit's printer. -/
import Derived.Test.YtjhinmdnabmdoaaDoorPLexx0
import Derived.Test.YtjhinmdnabmdoaaDoorPLexx1
namespace Go.Proofs.YtjhinmdnabmdoaaDoor.PLex
open Go.RowKit Go.Proofs.YtjhinmdnabmdoaaDoorW.PrintWords Go.Proofs.YtjhinmdnabmdoaaDoorW.PrintLast Go.Proofs.YtjhinmdnabmdoaaDoorW.PrintMore
attribute [local go_sem] max2_int min2_int max_two min_two max_three min_three max_four min_four   -- for this text's walks alone
set_option linter.unusedVariables false
set_option linter.unusedSimpArgs false

/-! ### bournelaw13_LexBack: function 4 -/
mutual
def bournelaw13_LexBack.j0 : Nat → ByteArray → Bool → List (S32) → Bool → Option (Bool)
  | 0, _, _, _, _ => none
  | k + 1, x0, x3, x4, x77 => if x77 = true then (some false) else (bournelaw13_LexBack.l0 k x0 x3 x4 0 0)
def bournelaw13_LexBack.l0 : Nat → ByteArray → Bool → List (S32) → Int → Int → Option (Bool)
  | 0, _, _, _, _, _ => none
  | k + 1, x0, x3, x4, x11, x12 => if x12 < (x4.length : Int) then (if 0 ≤ x12 then (if ((rd_T32 x4 x12).f0) = 2 then (if 1 + ((rd_T32 x4 x12).f1).size ≤ 9223372036854775807 then (if ((⟨#[34]⟩ : ByteArray) ++ ((rd_T32 x4 x12).f1)).size + 1 ≤ 9223372036854775807 then (bournelaw13_LexBack.j2 k x0 x3 x4 x11 x12 (((⟨#[34]⟩ : ByteArray) ++ ((rd_T32 x4 x12).f1)) ++ (⟨#[34]⟩ : ByteArray)) ((rd_T32 x4 x12).f0) ((rd_T32 x4 x12).f1) ((rd_T32 x4 x12).f2)) else (none)) else (none)) else (bournelaw13_LexBack.j2 k x0 x3 x4 x11 x12 ((rd_T32 x4 x12).f1) ((rd_T32 x4 x12).f0) ((rd_T32 x4 x12).f1) ((rd_T32 x4 x12).f2))) else (none)) else (if x3 = true then (if x11 = (x0.size : Int) then (if 0 ≤ (wrap64 ((x4.length : Int) - 1)) then (if (wrap64 ((x4.length : Int) - 1)) < (x4.length : Int) then (some (((rd_T32 x4 (wrap64 ((x4.length : Int) - 1))).f2) == (x0.size : Int))) else (none)) else (none)) else (some false)) else (some false))
def bournelaw13_LexBack.j2 : Nat → ByteArray → Bool → List (S32) → Int → Int → ByteArray → Int → ByteArray → Int → Option (Bool)
  | 0, _, _, _, _, _, _, _, _, _ => none
  | k + 1, x0, x3, x4, x11, x12, x14, x203000, x203001, x203002 => if x203002 < x11 then (bournelaw13_LexBack.j3 k x0 x3 x4 x11 x12 x14 true x203000 x203001 x203002) else (if (wrap64 (x203002 + (x14.size : Int))) > (x0.size : Int) then (bournelaw13_LexBack.j3 k x0 x3 x4 x11 x12 x14 true x203000 x203001 x203002) else (if 0 ≤ x203002 then (if x203002 ≤ (wrap64 (x203002 + (x14.size : Int))) then (if (wrap64 (x203002 + (x14.size : Int))) ≤ (x0.size : Int) then (if (x0.extract (x203002 : Int).toNat ((wrap64 (x203002 + (x14.size : Int))) : Int).toNat).toList = x14.toList then (if ((x203000 == 4) != (x12 == (wrap64 ((x4.length : Int) - 1)))) = true then (bournelaw13_LexBack.j3 k x0 x3 x4 x11 x12 x14 true x203000 x203001 x203002) else (if x203000 = 4 then (bournelaw13_LexBack.j3 k x0 x3 x4 x11 x12 x14 false x203000 x203001 x203002) else (bournelaw13_LexBack.j3 k x0 x3 x4 x11 x12 x14 (x14.toList == ([] : List UInt8)) x203000 x203001 x203002))) else (bournelaw13_LexBack.j3 k x0 x3 x4 x11 x12 x14 true x203000 x203001 x203002)) else (none)) else (none)) else (none)))
def bournelaw13_LexBack.j3 : Nat → ByteArray → Bool → List (S32) → Int → Int → ByteArray → Bool → Int → ByteArray → Int → Option (Bool)
  | 0, _, _, _, _, _, _, _, _, _, _ => none
  | k + 1, x0, x3, x4, x11, x12, x14, x142, x203000, x203001, x203002 => if x142 = true then (some false) else (if 0 ≤ x11 then (if x11 ≤ x203002 then (if x203002 ≤ (x0.size : Int) then ((lex_Scan.f (x0.extract (x11 : Int).toNat (x203002 : Int).toNat)).bind fun bt203 => (if bt203.2.1 = 0 then (if (bt203.1.length : Int) = 1 then (bournelaw13_LexBack.l0 k x0 x3 x4 (wrap64 (x203002 + (x14.size : Int))) (wrap64 (x12 + 1))) else (some false)) else (some false))) else (none)) else (none)) else (none))
end
def bournelaw13_LexBack.f (k : Nat) (a0 : ByteArray) : Option (Bool) := (bournelaw13_small.f k).bind fun t186 => (if (a0.size : Int) > 4000 then (some t186) else ((lex_Scan.f a0).bind fun bt187 => (if bt187.2.1 = 0 then ((lex_Write.f k bt187.1).bind fun t192 => ((lex_Scan.f t192).bind fun bt193 => (if bt193.2.1 = 0 then ((bourneref13_Same.f k bt187.1 bt193.1 false).bind fun t198 => (if t198 = true then ((lex_Write.f k bt193.1).bind fun t199 => (if t199.toList = t192.toList then (bournelaw13_LexBack.j0 k a0 t186 bt187.1 ((bt187.1.length : Int) == 0)) else (bournelaw13_LexBack.j0 k a0 t186 bt187.1 true))) else (bournelaw13_LexBack.j0 k a0 t186 bt187.1 true))) else (bournelaw13_LexBack.j0 k a0 t186 bt187.1 true)))) else (if t186 = true then (if bt187.2.1 = 2 then (if (bt187.1.length : Int) = 0 then (if bt187.2.2 ≥ 0 then (some (decide (bt187.2.2 < (a0.size : Int)))) else (some false)) else (some false)) else (some false)) else (some false)))))
theorem bournelaw13_LexBack.mono_l : ∀ k, (∀ y0 y1 y2 y3, LeO (bournelaw13_LexBack.j0 k y0 y1 y2 y3) (bournelaw13_LexBack.j0 (k + 1) y0 y1 y2 y3)) ∧ (∀ y0 y1 y2 y3 y4, LeO (bournelaw13_LexBack.l0 k y0 y1 y2 y3 y4) (bournelaw13_LexBack.l0 (k + 1) y0 y1 y2 y3 y4)) ∧ (∀ y0 y1 y2 y3 y4 y5 y6 y7 y8, LeO (bournelaw13_LexBack.j2 k y0 y1 y2 y3 y4 y5 y6 y7 y8) (bournelaw13_LexBack.j2 (k + 1) y0 y1 y2 y3 y4 y5 y6 y7 y8)) ∧ (∀ y0 y1 y2 y3 y4 y5 y6 y7 y8 y9, LeO (bournelaw13_LexBack.j3 k y0 y1 y2 y3 y4 y5 y6 y7 y8 y9) (bournelaw13_LexBack.j3 (k + 1) y0 y1 y2 y3 y4 y5 y6 y7 y8 y9))
  | 0 => ⟨fun _ _ _ _ r h => by simp [bournelaw13_LexBack.j0] at h, fun _ _ _ _ _ r h => by simp [bournelaw13_LexBack.l0] at h, fun _ _ _ _ _ _ _ _ _ r h => by simp [bournelaw13_LexBack.j2] at h, fun _ _ _ _ _ _ _ _ _ _ r h => by simp [bournelaw13_LexBack.j3] at h⟩
  | k + 1 => by
    obtain ⟨ih0, ih1, ih2, ih3⟩ := bournelaw13_LexBack.mono_l k
    refine ⟨?_, ?_, ?_, ?_⟩
    · intro y0 y1 y2 y3
      unfold bournelaw13_LexBack.j0
      repeat' first
      | (with_reducible exact ih0 _ _ _ _)
      | (with_reducible exact ih1 _ _ _ _ _)
      | (with_reducible exact ih2 _ _ _ _ _ _ _ _ _)
      | (with_reducible exact ih3 _ _ _ _ _ _ _ _ _ _)
      | (with_reducible exact bournelaw13_small.mono _)
      | (with_reducible exact bourneref13_Same.mono _ _ _ _)
      | (with_reducible exact lex_Write.mono _ _)
      | (with_reducible exact LeO.refl _)
      | (with_reducible exact LeO.none _)
      | (with_reducible refine LeO.ite ?_ ?_)
      | (with_reducible refine LeO.bind ?_ (fun _ => ?_))
      | exact ih0 _ _ _ _
      | exact ih1 _ _ _ _ _
      | exact ih2 _ _ _ _ _ _ _ _ _
      | exact ih3 _ _ _ _ _ _ _ _ _ _
      | exact bournelaw13_small.mono _
      | exact bourneref13_Same.mono _ _ _ _
      | exact lex_Write.mono _ _
      | exact LeO.none _
      | refine LeO.ite ?_ ?_
      | refine LeO.bind ?_ (fun _ => ?_)
    · intro y0 y1 y2 y3 y4
      unfold bournelaw13_LexBack.l0
      repeat' first
      | (with_reducible exact ih0 _ _ _ _)
      | (with_reducible exact ih1 _ _ _ _ _)
      | (with_reducible exact ih2 _ _ _ _ _ _ _ _ _)
      | (with_reducible exact ih3 _ _ _ _ _ _ _ _ _ _)
      | (with_reducible exact bournelaw13_small.mono _)
      | (with_reducible exact bourneref13_Same.mono _ _ _ _)
      | (with_reducible exact lex_Write.mono _ _)
      | (with_reducible exact LeO.refl _)
      | (with_reducible exact LeO.none _)
      | (with_reducible refine LeO.ite ?_ ?_)
      | (with_reducible refine LeO.bind ?_ (fun _ => ?_))
      | exact ih0 _ _ _ _
      | exact ih1 _ _ _ _ _
      | exact ih2 _ _ _ _ _ _ _ _ _
      | exact ih3 _ _ _ _ _ _ _ _ _ _
      | exact bournelaw13_small.mono _
      | exact bourneref13_Same.mono _ _ _ _
      | exact lex_Write.mono _ _
      | exact LeO.none _
      | refine LeO.ite ?_ ?_
      | refine LeO.bind ?_ (fun _ => ?_)
    · intro y0 y1 y2 y3 y4 y5 y6 y7 y8
      unfold bournelaw13_LexBack.j2
      repeat' first
      | (with_reducible exact ih0 _ _ _ _)
      | (with_reducible exact ih1 _ _ _ _ _)
      | (with_reducible exact ih2 _ _ _ _ _ _ _ _ _)
      | (with_reducible exact ih3 _ _ _ _ _ _ _ _ _ _)
      | (with_reducible exact bournelaw13_small.mono _)
      | (with_reducible exact bourneref13_Same.mono _ _ _ _)
      | (with_reducible exact lex_Write.mono _ _)
      | (with_reducible exact LeO.refl _)
      | (with_reducible exact LeO.none _)
      | (with_reducible refine LeO.ite ?_ ?_)
      | (with_reducible refine LeO.bind ?_ (fun _ => ?_))
      | exact ih0 _ _ _ _
      | exact ih1 _ _ _ _ _
      | exact ih2 _ _ _ _ _ _ _ _ _
      | exact ih3 _ _ _ _ _ _ _ _ _ _
      | exact bournelaw13_small.mono _
      | exact bourneref13_Same.mono _ _ _ _
      | exact lex_Write.mono _ _
      | exact LeO.none _
      | refine LeO.ite ?_ ?_
      | refine LeO.bind ?_ (fun _ => ?_)
    · intro y0 y1 y2 y3 y4 y5 y6 y7 y8 y9
      unfold bournelaw13_LexBack.j3
      repeat' first
      | (with_reducible exact ih0 _ _ _ _)
      | (with_reducible exact ih1 _ _ _ _ _)
      | (with_reducible exact ih2 _ _ _ _ _ _ _ _ _)
      | (with_reducible exact ih3 _ _ _ _ _ _ _ _ _ _)
      | (with_reducible exact bournelaw13_small.mono _)
      | (with_reducible exact bourneref13_Same.mono _ _ _ _)
      | (with_reducible exact lex_Write.mono _ _)
      | (with_reducible exact LeO.refl _)
      | (with_reducible exact LeO.none _)
      | (with_reducible refine LeO.ite ?_ ?_)
      | (with_reducible refine LeO.bind ?_ (fun _ => ?_))
      | exact ih0 _ _ _ _
      | exact ih1 _ _ _ _ _
      | exact ih2 _ _ _ _ _ _ _ _ _
      | exact ih3 _ _ _ _ _ _ _ _ _ _
      | exact bournelaw13_small.mono _
      | exact bourneref13_Same.mono _ _ _ _
      | exact lex_Write.mono _ _
      | exact LeO.none _
      | refine LeO.ite ?_ ?_
      | refine LeO.bind ?_ (fun _ => ?_)
theorem bournelaw13_LexBack.mono : ∀ a0 k, LeO (bournelaw13_LexBack.f k a0) (bournelaw13_LexBack.f (k + 1) a0) := by
  intro a0 k
  obtain ⟨ih0, ih1, ih2, ih3⟩ := bournelaw13_LexBack.mono_l k
  unfold bournelaw13_LexBack.f
  repeat' first
      | (with_reducible exact ih0 _ _ _ _)
      | (with_reducible exact ih1 _ _ _ _ _)
      | (with_reducible exact ih2 _ _ _ _ _ _ _ _ _)
      | (with_reducible exact ih3 _ _ _ _ _ _ _ _ _ _)
      | (with_reducible exact bournelaw13_small.mono _)
      | (with_reducible exact bourneref13_Same.mono _ _ _ _)
      | (with_reducible exact lex_Write.mono _ _)
      | (with_reducible exact LeO.refl _)
      | (with_reducible exact LeO.none _)
      | (with_reducible refine LeO.ite ?_ ?_)
      | (with_reducible refine LeO.bind ?_ (fun _ => ?_))
      | exact ih0 _ _ _ _
      | exact ih1 _ _ _ _ _
      | exact ih2 _ _ _ _ _ _ _ _ _
      | exact ih3 _ _ _ _ _ _ _ _ _ _
      | exact bournelaw13_small.mono _
      | exact bourneref13_Same.mono _ _ _ _
      | exact lex_Write.mono _ _
      | exact LeO.none _
      | refine LeO.ite ?_ ?_
      | refine LeO.bind ?_ (fun _ => ?_)
set_option maxHeartbeats 8000000 in
set_option maxRecDepth 100000 in
theorem bournelaw13_LexBack.calls (k : Nat) (a0 : ByteArray) (r : Bool) (w : World) (h : bournelaw13_LexBack.f k a0 = some r) :
    Calls Tryd.prog 4 #[.string a0] w fun e w' => e = .returned (.bool r) ∧ Below w.heap.size w w' := by
  have hu32 := Tryd.underlying32
  have HB := Aside0.mk (Below.refl w.heap.size w)
  have H : ((bournelaw13_small.f k).bind fun t186 => (if (a0.size : Int) > 4000 then (some t186) else ((lex_Scan.f a0).bind fun bt187 => (if bt187.2.1 = 0 then ((lex_Write.f k bt187.1).bind fun t192 => ((lex_Scan.f t192).bind fun bt193 => (if bt193.2.1 = 0 then ((bourneref13_Same.f k bt187.1 bt193.1 false).bind fun t198 => (if t198 = true then ((lex_Write.f k bt193.1).bind fun t199 => (if t199.toList = t192.toList then (bournelaw13_LexBack.j0 k a0 t186 bt187.1 ((bt187.1.length : Int) == 0)) else (bournelaw13_LexBack.j0 k a0 t186 bt187.1 true))) else (bournelaw13_LexBack.j0 k a0 t186 bt187.1 true))) else (bournelaw13_LexBack.j0 k a0 t186 bt187.1 true)))) else (if t186 = true then (if bt187.2.1 = 2 then (if (bt187.1.length : Int) = 0 then (if bt187.2.2 ≥ 0 then (some (decide (bt187.2.2 < (a0.size : Int)))) else (some false)) else (some false)) else (some false)) else (some false)))))) = some r := h
  clear h
  replace H := Option.bind_eq_some_iff.mp H
  obtain ⟨t186, A20, H⟩ := H
  replace H : (if (a0.size : Int) > 4000 then (some t186) else ((lex_Scan.f a0).bind fun bt187 => (if bt187.2.1 = 0 then ((lex_Write.f k bt187.1).bind fun t192 => ((lex_Scan.f t192).bind fun bt193 => (if bt193.2.1 = 0 then ((bourneref13_Same.f k bt187.1 bt193.1 false).bind fun t198 => (if t198 = true then ((lex_Write.f k bt193.1).bind fun t199 => (if t199.toList = t192.toList then (bournelaw13_LexBack.j0 k a0 t186 bt187.1 ((bt187.1.length : Int) == 0)) else (bournelaw13_LexBack.j0 k a0 t186 bt187.1 true))) else (bournelaw13_LexBack.j0 k a0 t186 bt187.1 true))) else (bournelaw13_LexBack.j0 k a0 t186 bt187.1 true)))) else (if t186 = true then (if bt187.2.1 = 2 then (if (bt187.1.length : Int) = 0 then (if bt187.2.2 ≥ 0 then (some (decide (bt187.2.2 < (a0.size : Int)))) else (some false)) else (some false)) else (some false)) else (some false))))) = some r := H
  have A2 := Aside0.mk A20
  clear A20
  by_cases c3 : (a0.size : Int) > 4000
  · rw [if_pos c3] at H
    have c3b0 : decide (4000 < (a0.size : Int)) = true := decide_eq_true c3
    have c3b1 : decide (4000 < a0.size) = true := decide_eq_true (by omega)
    clear c3
    obtain rfl := Option.some.inj H
    go_enter Tryd.func4, Tryd.ntmps4
    go_wp2_with (first | ((with_reducible refine gate_callee (f := 8) rfl ?_); refine goesL_ (some 18) rfl rfl Tryd.func8 (by kernel_rfl) rfl #[] rfl (by (try simp only [List.map_toArray, List.map_cons, List.map_nil]); first | done | rfl | (simp only [List.length_drop, List.length_take]; rfl)) ?_; (with_reducible refine (bournelaw13_small.calls k  t186 _ A2.out).mono ?_); rintro e w4 ⟨rfl, hb⟩; refine ⟨_, rfl, ?_⟩; have n0_ := Aside0.mk (below_step (by repeat (first | (with_reducible first | exact HB.out | apply below_alloc | apply pw_below_drewN | apply below_drew1) | exact HB.out)) hb); clear HB; have HB := n0_; clear n0_; (try clear hb); (try clear hb2); (try clear hk); (try clear hi)))
    go_ret
    exact ⟨by first | rfl | (simp [errW_none, errW_some] <;> rfl) | (simp [*, errW_none, errW_some] <;> rfl), by repeat (first | (with_reducible first | exact HB.out | apply below_alloc | apply pw_below_drewN | apply below_drew1) | exact HB.out)⟩
  · rw [if_neg c3] at H
    have c3b0 : decide (4000 < (a0.size : Int)) = false := decide_eq_false c3
    have c3b1 : decide (4000 < a0.size) = false := decide_eq_false (by omega)
    clear c3
    replace H := Option.bind_eq_some_iff.mp H
    obtain ⟨⟨t187, t188, t189⟩, A50, H⟩ := H
    replace H : (if t188 = 0 then ((lex_Write.f k t187).bind fun t192 => ((lex_Scan.f t192).bind fun bt193 => (if bt193.2.1 = 0 then ((bourneref13_Same.f k t187 bt193.1 false).bind fun t198 => (if t198 = true then ((lex_Write.f k bt193.1).bind fun t199 => (if t199.toList = t192.toList then (bournelaw13_LexBack.j0 k a0 t186 t187 ((t187.length : Int) == 0)) else (bournelaw13_LexBack.j0 k a0 t186 t187 true))) else (bournelaw13_LexBack.j0 k a0 t186 t187 true))) else (bournelaw13_LexBack.j0 k a0 t186 t187 true)))) else (if t186 = true then (if t188 = 2 then (if (t187.length : Int) = 0 then (if t189 ≥ 0 then (some (decide (t189 < (a0.size : Int)))) else (some false)) else (some false)) else (some false)) else (some false))) = some r := H
    have A5 := Aside0.mk A50
    clear A50
    by_cases c6 : t188 = 0
    · rw [if_pos c6] at H
      have c6b0 : (t188 == 0) = true := beq_iff_eq.mpr c6
      have c6b1 : (t188 != 0) = false := bne_eq_false_iff_eq.mpr c6
      clear c6
      replace H := Option.bind_eq_some_iff.mp H
      obtain ⟨t192, A70, H⟩ := H
      replace H : ((lex_Scan.f t192).bind fun bt193 => (if bt193.2.1 = 0 then ((bourneref13_Same.f k t187 bt193.1 false).bind fun t198 => (if t198 = true then ((lex_Write.f k bt193.1).bind fun t199 => (if t199.toList = t192.toList then (bournelaw13_LexBack.j0 k a0 t186 t187 ((t187.length : Int) == 0)) else (bournelaw13_LexBack.j0 k a0 t186 t187 true))) else (bournelaw13_LexBack.j0 k a0 t186 t187 true))) else (bournelaw13_LexBack.j0 k a0 t186 t187 true))) = some r := H
      have A7 := Aside0.mk A70
      clear A70
      replace H := Option.bind_eq_some_iff.mp H
      obtain ⟨⟨t193, t194, t195⟩, A80, H⟩ := H
      replace H : (if t194 = 0 then ((bourneref13_Same.f k t187 t193 false).bind fun t198 => (if t198 = true then ((lex_Write.f k t193).bind fun t199 => (if t199.toList = t192.toList then (bournelaw13_LexBack.j0 k a0 t186 t187 ((t187.length : Int) == 0)) else (bournelaw13_LexBack.j0 k a0 t186 t187 true))) else (bournelaw13_LexBack.j0 k a0 t186 t187 true))) else (bournelaw13_LexBack.j0 k a0 t186 t187 true)) = some r := H
      have A8 := Aside0.mk A80
      clear A80
      have HC9 := Aside0.mk H
      clear H
      go_enter Tryd.func4, Tryd.ntmps4
      go_upto_region 9 with (first | ((with_reducible refine gate_callee (f := 8) rfl ?_); refine goesL_ (some 18) rfl rfl Tryd.func8 (by kernel_rfl) rfl #[] rfl (by (try simp only [List.map_toArray, List.map_cons, List.map_nil]); first | done | rfl | (simp only [List.length_drop, List.length_take]; rfl)) ?_; (with_reducible refine (bournelaw13_small.calls k  t186 _ A2.out).mono ?_); rintro e w10 ⟨rfl, hb⟩; refine ⟨_, rfl, ?_⟩; have n0_ := Aside0.mk (below_step (by repeat (first | (with_reducible first | exact HB.out | apply below_alloc | apply pw_below_drewN | apply below_drew1) | exact HB.out)) hb); clear HB; have HB := n0_; clear n0_; (try clear hb); (try clear hb2); (try clear hk); (try clear hi)) | ((with_reducible refine gate_callee (f := 10) rfl ?_); refine goesL_ (some 25) rfl rfl Tryd.func10 (by kernel_rfl) rfl #[.string a0] rfl (by (try simp only [List.map_toArray, List.map_cons, List.map_nil]); first | done | rfl | (simp only [List.length_drop, List.length_take]; rfl)) ?_; (with_reducible refine (lex_Scan.calls a0 t187 t188 t189 _ A5.out).mono ?_); rintro e w11 ⟨v190, rfl, ho0, hb⟩; refine ⟨_, rfl, ?_⟩; have n0_ := Aside0.mk (Kd.R_lower ho0 (below_size (by repeat (first | (with_reducible first | exact HB.out | apply below_alloc | apply pw_below_drewN | apply below_drew1) | exact HB.out)))); have n1_ := Aside0.mk (below_step (by repeat (first | (with_reducible first | exact HB.out | apply below_alloc | apply pw_below_drewN | apply below_drew1) | exact HB.out)) hb); clear HB; have HO191 := n0_; have HB := n1_; clear n0_ n1_; (try clear hb); (try clear hb2); (try clear hk); (try clear hi); (try clear ho0); obtain ⟨Ao12, co12, eo12⟩ := Kd.R_slice HO191.out; subst eo12) | ((with_reducible refine gate_callee (f := 13) rfl ?_); refine goesL_ (some 52) rfl rfl Tryd.func13 (by kernel_rfl) rfl #[.slice Ao12 t187.length co12] rfl (by (try simp only [List.map_toArray, List.map_cons, List.map_nil]); first | done | rfl | (simp only [List.length_drop, List.length_take]; rfl)) ?_; (with_reducible refine (lex_Write.calls k _ _ t187 t192 _ ?side1 ?side2 A7.out).mono ?_); (case side1 => repeat (first | exact (Kd.R_reads' HO191.out).2.2 | (with_reducible refine Kd.C_alloc ?_ _) | (with_reducible refine Kd.C_drewN ?_ _) | (with_reducible refine Kd.C_drew ?_))); (case side2 => exact (Kd.R_reads' HO191.out).2.1); rintro e w13 ⟨rfl, hb⟩; refine ⟨_, rfl, ?_⟩; have n0_ := Aside0.mk (Kd.R_below (by (with_reducible repeat (first | apply Kd.R_alloc | apply Kd.R_drewN | apply Kd.R_drew)); exact HO191.out) hb); have n1_ := Aside0.mk (below_step (by repeat (first | (with_reducible first | exact HB.out | apply below_alloc | apply pw_below_drewN | apply below_drew1) | exact HB.out)) hb); clear HO191; clear HB; have HO191 := n0_; have HB := n1_; clear n0_ n1_; (try clear hb); (try clear hb2); (try clear hk); (try clear hi)) | ((with_reducible refine gate_callee (f := 10) rfl ?_); refine goesL_ (some 55) rfl rfl Tryd.func10 (by kernel_rfl) rfl #[.string t192] rfl (by (try simp only [List.map_toArray, List.map_cons, List.map_nil]); first | done | rfl | (simp only [List.length_drop, List.length_take]; rfl)) ?_; (with_reducible refine (lex_Scan.calls t192 t193 t194 t195 _ A8.out).mono ?_); rintro e w14 ⟨v196, rfl, ho0, hb⟩; refine ⟨_, rfl, ?_⟩; have n0_ := Aside0.mk (Kd.R_elder' (by (with_reducible repeat (first | apply Kd.R_alloc | apply Kd.R_drewN | apply Kd.R_drew)); exact HO191.out) (Kd.R_base ho0) hb); have n1_ := Aside0.mk (Kd.R_lower (Kd.R_new' ho0 (Kd.R_lt (by (with_reducible repeat (first | apply Kd.R_alloc | apply Kd.R_drewN | apply Kd.R_drew)); exact HO191.out))) (below_size (by repeat (first | (with_reducible first | exact HB.out | apply below_alloc | apply pw_below_drewN | apply below_drew1) | exact HB.out)))); have n2_ := Aside0.mk (below_step (by repeat (first | (with_reducible first | exact HB.out | apply below_alloc | apply pw_below_drewN | apply below_drew1) | exact HB.out)) hb); clear HO191; clear HB; have HO191 := n0_; have HO197 := n1_; have HB := n2_; clear n0_ n1_ n2_; (try clear hb); (try clear hb2); (try clear hk); (try clear hi); (try clear ho0)))
      (try simp only [Act.put, List.setIfInBounds_toArray, List.set_cons_zero, List.set_cons_succ])
      go_cut [77] (fun v77 wc => ∃ (kq : Nat) (x77_8 : Bool), v77 = .bool x77_8 ∧ Aside0 (bournelaw13_LexBack.j0 kq a0 t186 t187 x77_8 = some r) ∧ Aside0 (kq ≤ k) ∧ Aside0 (Kd.R k32 32 wc w.heap.size (fun _ => True) (.slice Ao12 t187.length co12) t187) ∧ Aside0 (Below w.heap.size w wc))
      case first =>
        have H := HC9.out
        clear HC9
        by_cases c15 : t194 = 0
        · rw [if_pos c15] at H
          have c15b0 : (t194 == 0) = true := beq_iff_eq.mpr c15
          have c15b1 : (t194 != 0) = false := bne_eq_false_iff_eq.mpr c15
          clear c15
          (first | rw [c15b0] | (simp only [i64_w, i32_w]; rw [c15b0]) | skip)
          replace H := Option.bind_eq_some_iff.mp H
          obtain ⟨t198, A160, H⟩ := H
          replace H : (if t198 = true then ((lex_Write.f k t193).bind fun t199 => (if t199.toList = t192.toList then (bournelaw13_LexBack.j0 k a0 t186 t187 ((t187.length : Int) == 0)) else (bournelaw13_LexBack.j0 k a0 t186 t187 true))) else (bournelaw13_LexBack.j0 k a0 t186 t187 true)) = some r := H
          have A16 := Aside0.mk A160
          clear A160
          by_cases c17 : t198 = true
          · subst c17
            have H1 : ((lex_Write.f k t193).bind fun t199 => (if t199.toList = t192.toList then (bournelaw13_LexBack.j0 k a0 t186 t187 ((t187.length : Int) == 0)) else (bournelaw13_LexBack.j0 k a0 t186 t187 true))) = some r := by rw [if_pos rfl] at H; exact H
            clear H
            have H := H1
            clear H1
            replace H := Option.bind_eq_some_iff.mp H
            obtain ⟨t199, A180, H⟩ := H
            replace H : (if t199.toList = t192.toList then (bournelaw13_LexBack.j0 k a0 t186 t187 ((t187.length : Int) == 0)) else (bournelaw13_LexBack.j0 k a0 t186 t187 true)) = some r := H
            have A18 := Aside0.mk A180
            clear A180
            by_cases c19 : t199.toList = t192.toList
            · rw [if_pos c19] at H
              have c19b0 : (t199.toList == t192.toList) = true := beq_iff_eq.mpr c19
              have c19b1 : (t199.toList != t192.toList) = false := bne_eq_false_iff_eq.mpr c19
              clear c19
              have H' := Aside0.mk H
              clear H
              obtain ⟨Ao20, co20, eo20⟩ := Kd.R_slice HO197.out
              subst eo20
              go_wp2_with (first | (go_at_call 12; (with_reducible refine (bourneref13_Same.calls k _ _ t187 _ _ t193 false true _ ?side1 ?side2 ?side3 ?side4 A16.out).mono ?_); (case side1 => repeat (first | exact (Kd.R_reads' HO191.out).2.2 | (with_reducible refine Kd.C_alloc ?_ _) | (with_reducible refine Kd.C_drewN ?_ _) | (with_reducible refine Kd.C_drew ?_))); (case side2 => exact (Kd.R_reads' HO191.out).2.1); (case side3 => repeat (first | exact (Kd.R_reads' HO197.out).2.2 | (with_reducible refine Kd.C_alloc ?_ _) | (with_reducible refine Kd.C_drewN ?_ _) | (with_reducible refine Kd.C_drew ?_))); (case side4 => exact (Kd.R_reads' HO197.out).2.1); rintro e w' ⟨rfl, ⟨nd, rfl⟩⟩) | (go_at_call 13; (with_reducible refine (lex_Write.calls k _ _ t193 t199 _ ?side1 ?side2 A18.out).mono ?_); (case side1 => repeat (first | exact (Kd.R_reads' HO197.out).2.2 | (with_reducible refine Kd.C_alloc ?_ _) | (with_reducible refine Kd.C_drewN ?_ _) | (with_reducible refine Kd.C_drew ?_))); (case side2 => exact (Kd.R_reads' HO197.out).2.1); rintro e w21 ⟨rfl, hb⟩; have n0_ := Aside0.mk (Kd.R_below (by (with_reducible repeat (first | apply Kd.R_alloc | apply Kd.R_drewN | apply Kd.R_drew)); exact HO191.out) hb); have n1_ := Aside0.mk (Kd.R_below (by (with_reducible repeat (first | apply Kd.R_alloc | apply Kd.R_drewN | apply Kd.R_drew)); exact HO197.out) hb); have n2_ := Aside0.mk (below_step (by repeat (first | (with_reducible first | exact HB.out | apply below_alloc | apply pw_below_drewN | apply below_drew1) | exact HB.out)) hb); clear HO191; clear HO197; clear HB; have HO191 := n0_; have HO197 := n1_; have HB := n2_; clear n0_ n1_ n2_; (try clear hb); (try clear hb2); (try clear hk); (try clear hi)))
              go_meet
              case rel => exact ⟨_, (((t187.length : Int) == 0)), (by first | rfl | (simp; done) | (simp [*]; done)), H', ⟨by first | omega | exact Nat.le_refl _⟩, ⟨by (with_reducible repeat (first | apply Kd.R_alloc | apply Kd.R_drewN | apply Kd.R_drew)); exact Kd.R_mono HO191.out (fun _ hk => trivial)⟩, ⟨by repeat (first | (with_reducible first | exact HB.out | apply below_alloc | apply pw_below_drewN | apply below_drew1) | exact HB.out)⟩⟩
            · rw [if_neg c19] at H
              have c19b0 : (t199.toList == t192.toList) = false := beq_eq_false_iff_ne.mpr c19
              have c19b1 : (t199.toList != t192.toList) = true := bne_iff_ne.mpr c19
              have H' := Aside0.mk H
              clear H
              obtain ⟨Ao22, co22, eo22⟩ := Kd.R_slice HO197.out
              subst eo22
              go_wp2_with (first | (go_at_call 12; (with_reducible refine (bourneref13_Same.calls k _ _ t187 _ _ t193 false true _ ?side1 ?side2 ?side3 ?side4 A16.out).mono ?_); (case side1 => repeat (first | exact (Kd.R_reads' HO191.out).2.2 | (with_reducible refine Kd.C_alloc ?_ _) | (with_reducible refine Kd.C_drewN ?_ _) | (with_reducible refine Kd.C_drew ?_))); (case side2 => exact (Kd.R_reads' HO191.out).2.1); (case side3 => repeat (first | exact (Kd.R_reads' HO197.out).2.2 | (with_reducible refine Kd.C_alloc ?_ _) | (with_reducible refine Kd.C_drewN ?_ _) | (with_reducible refine Kd.C_drew ?_))); (case side4 => exact (Kd.R_reads' HO197.out).2.1); rintro e w' ⟨rfl, ⟨nd, rfl⟩⟩) | (go_at_call 13; (with_reducible refine (lex_Write.calls k _ _ t193 t199 _ ?side1 ?side2 A18.out).mono ?_); (case side1 => repeat (first | exact (Kd.R_reads' HO197.out).2.2 | (with_reducible refine Kd.C_alloc ?_ _) | (with_reducible refine Kd.C_drewN ?_ _) | (with_reducible refine Kd.C_drew ?_))); (case side2 => exact (Kd.R_reads' HO197.out).2.1); rintro e w23 ⟨rfl, hb⟩; have n0_ := Aside0.mk (Kd.R_below (by (with_reducible repeat (first | apply Kd.R_alloc | apply Kd.R_drewN | apply Kd.R_drew)); exact HO191.out) hb); have n1_ := Aside0.mk (Kd.R_below (by (with_reducible repeat (first | apply Kd.R_alloc | apply Kd.R_drewN | apply Kd.R_drew)); exact HO197.out) hb); have n2_ := Aside0.mk (below_step (by repeat (first | (with_reducible first | exact HB.out | apply below_alloc | apply pw_below_drewN | apply below_drew1) | exact HB.out)) hb); clear HO191; clear HO197; clear HB; have HO191 := n0_; have HO197 := n1_; have HB := n2_; clear n0_ n1_ n2_; (try clear hb); (try clear hb2); (try clear hk); (try clear hi)))
              go_meet
              case rel => exact ⟨_, (true), (by first | rfl | (simp; done) | (simp [*]; done)), H', ⟨by first | omega | exact Nat.le_refl _⟩, ⟨by (with_reducible repeat (first | apply Kd.R_alloc | apply Kd.R_drewN | apply Kd.R_drew)); exact Kd.R_mono HO191.out (fun _ hk => trivial)⟩, ⟨by repeat (first | (with_reducible first | exact HB.out | apply below_alloc | apply pw_below_drewN | apply below_drew1) | exact HB.out)⟩⟩
          · replace c17 := Bool.eq_false_iff.mpr c17
            subst c17
            have H1 : (bournelaw13_LexBack.j0 k a0 t186 t187 true) = some r := by rw [if_neg (show ¬ (false = true) by decide)] at H; exact H
            clear H
            have H := H1
            clear H1
            have H' := Aside0.mk H
            clear H
            obtain ⟨Ao24, co24, eo24⟩ := Kd.R_slice HO197.out
            subst eo24
            go_wp2_with (first | (go_at_call 12; (with_reducible refine (bourneref13_Same.calls k _ _ t187 _ _ t193 false false _ ?side1 ?side2 ?side3 ?side4 A16.out).mono ?_); (case side1 => repeat (first | exact (Kd.R_reads' HO191.out).2.2 | (with_reducible refine Kd.C_alloc ?_ _) | (with_reducible refine Kd.C_drewN ?_ _) | (with_reducible refine Kd.C_drew ?_))); (case side2 => exact (Kd.R_reads' HO191.out).2.1); (case side3 => repeat (first | exact (Kd.R_reads' HO197.out).2.2 | (with_reducible refine Kd.C_alloc ?_ _) | (with_reducible refine Kd.C_drewN ?_ _) | (with_reducible refine Kd.C_drew ?_))); (case side4 => exact (Kd.R_reads' HO197.out).2.1); rintro e w' ⟨rfl, ⟨nd, rfl⟩⟩))
            go_meet
            case rel => exact ⟨_, (true), (by first | rfl | (simp; done) | (simp [*]; done)), H', ⟨by first | omega | exact Nat.le_refl _⟩, ⟨by (with_reducible repeat (first | apply Kd.R_alloc | apply Kd.R_drewN | apply Kd.R_drew)); exact Kd.R_mono HO191.out (fun _ hk => trivial)⟩, ⟨by repeat (first | (with_reducible first | exact HB.out | apply below_alloc | apply pw_below_drewN | apply below_drew1) | exact HB.out)⟩⟩
        · rw [if_neg c15] at H
          have c15b0 : (t194 == 0) = false := beq_eq_false_iff_ne.mpr c15
          have c15b1 : (t194 != 0) = true := bne_iff_ne.mpr c15
          (first | rw [c15b0] | (simp only [i64_w, i32_w]; rw [c15b0]) | skip)
          have H' := Aside0.mk H
          clear H
          go_wp2
          go_meet
          case rel => exact ⟨_, (true), (by first | rfl | (simp; done) | (simp [*]; done)), H', ⟨by first | omega | exact Nat.le_refl _⟩, ⟨by (with_reducible repeat (first | apply Kd.R_alloc | apply Kd.R_drewN | apply Kd.R_drew)); exact Kd.R_mono HO191.out (fun _ hk => trivial)⟩, ⟨by repeat (first | (with_reducible first | exact HB.out | apply below_alloc | apply pw_below_drewN | apply below_drew1) | exact HB.out)⟩⟩
      case rest =>
        clear HC9
        try clear c1
        try clear p2
        try clear c3
        try clear c3b0
        try clear c3b1
        try clear c4
        try clear c6
        try clear c6b0
        try clear c6b1
        try clear c8
        try clear c10
        try clear c13
        try clear c15
        try clear c15b0
        try clear c15b1
        try clear c17
        try clear c19
        try clear c19b0
        try clear c19b1
        obtain ⟨kq, x77_8, rfl, HA, HJ8, HO_4, HB⟩ := hcut
        cases kq with
        | zero => exact absurd HA.out (by simp [bournelaw13_LexBack.j0])
        | succ kj8 =>
          have H := HA.out
          clear HA
          simp only [bournelaw13_LexBack.j0] at H
          by_cases c25 : x77_8 = true
          · subst c25
            have H1 : (some false) = some r := by rw [if_pos rfl] at H; exact H
            clear H
            have H := H1
            clear H1
            obtain rfl := Option.some.inj H
            go_wp2
            go_ret
            exact ⟨by first | rfl | (simp [errW_none, errW_some] <;> rfl) | (simp [*, errW_none, errW_some] <;> rfl), by repeat (first | (with_reducible first | exact HB.out | apply below_alloc | apply pw_below_drewN | apply below_drew1) | exact HB.out)⟩
          · replace c25 := Bool.eq_false_iff.mpr c25
            subst c25
            have H1 : (bournelaw13_LexBack.l0 kj8 a0 t186 t187 0 0) = some r := by rw [if_neg (show ¬ (false = true) by decide)] at H; exact H
            clear H
            have H := H1
            clear H1
            have H' := Aside0.mk H
            clear H
            go_wp2
            go_loopg [11, 12] kj8 (fun kq v11 v12 w' => ∃ (x11_2 : Int) (x12_2 : Int), v11 = .int .i64 x11_2 ∧ v12 = .int .i64 x12_2 ∧ Aside0 (bournelaw13_LexBack.l0 kq a0 t186 t187 x11_2 x12_2 = some r) ∧ Aside0 (kq ≤ kj8) ∧ Aside0 (Kd.R k32 32 w' w.heap.size (fun _ => True) (.slice Ao12 t187.length co12) t187) ∧ Aside0 (Below w.heap.size w w'))
            case atStart => exact ⟨(0), (0), (by first | rfl | (simp; done) | (simp [*]; done)), (by first | rfl | (simp; done) | (simp [*]; done)), H', ⟨Nat.le_refl _⟩, ⟨by (with_reducible repeat (first | apply Kd.R_alloc | apply Kd.R_drewN | apply Kd.R_drew)); exact HO_4.out⟩, ⟨by repeat (first | (with_reducible first | exact HB.out | apply below_alloc | apply pw_below_drewN | apply below_drew1) | exact HB.out)⟩⟩
            case round =>
              clear H'
              try clear c1
              try clear c2
              try clear p2
              try clear c3
              try clear c3b0
              try clear c3b1
              try clear c4
              try clear c6
              try clear c6b0
              try clear c6b1
              try clear c8
              try clear c10
              try clear c13
              try clear c15
              try clear c15b0
              try clear c15b1
              try clear c17
              try clear c19
              try clear c19b0
              try clear c19b1
              try clear c25
              try clear p2
              obtain ⟨x11_2, x12_2, rfl, rfl, HA, HK2, HO_4, HB⟩ := hrel
              cases gk with
              | zero => exact absurd HA.out (by simp [bournelaw13_LexBack.l0])
              | succ k2 =>
                have H := HA.out
                clear HA
                simp only [bournelaw13_LexBack.l0] at H
                by_cases c26 : x12_2 < (t187.length : Int)
                · rw [if_pos c26] at H
                  have c26b0 : decide (x12_2 < (t187.length : Int)) = true := decide_eq_true c26
                  clear c26
                  by_cases c27 : 0 ≤ x12_2
                  · rw [if_pos c27] at H
                    have c27b0 : decide (0 ≤ x12_2) = true := decide_eq_true c27
                    clear c27
                    have HC28 := Aside0.mk H
                    clear H
                    have p201 : 0 ≤ (x12_2 : Int) := of_decide_eq_true (by first | (with_reducible assumption) | assumption)
                    have q201 : x12_2 < (t187.length : Int) := of_decide_eq_true (by first | (with_reducible assumption) | assumption)
                    obtain ⟨ad201, e201, hx201_0, hx201_1, hx201_2⟩ := at_T32 (Kd.R_reads' HO_4.out).2.2 x12_2 p201 q201
                    cases e201
                    replace p201 := eq_true p201
                    replace q201 := eq_true q201
                    go_upto_if 92 with (first | ((with_reducible refine gate_dst (N := 13) rfl ?_); (try (refine gate_guard (by rfl) ?_; dsimp only)); refine box_event ?hg (N := 13) ?hd (cs := #[.int .i64 0, .string (⟨#[]⟩ : ByteArray), .int .i64 0]) (t := 32) ?hr ?_; (case hd => rfl); (case hg => rfl); (case hr => first | (go_simp; done) | (go_simp; rfl)); intro gb202 hg w29 hbox hb; have n0_ := Aside0.mk (Kd.R_below (Kd.R_elderB (by (with_reducible repeat (first | apply Kd.R_alloc | apply Kd.R_drewN | apply Kd.R_drew)); exact HO_4.out) gb202 (Nat.le_of_eq hg.symm)) hb); have n1_ := Aside0.mk (below_step (by repeat (first | (with_reducible first | exact HB.out | apply below_alloc | apply pw_below_drewN | apply below_drew1) | exact HB.out)) hb); have n2_ := Aside0.mk (hbox); have n3_ := Aside0.mk ((by rw [hg]; exact (below_size (by repeat (first | (with_reducible first | exact HB.out | apply below_alloc | apply pw_below_drewN | apply below_drew1) | exact HB.out))) : w.heap.size ≤ gb202)); have n4_ := Aside0.mk ((by rw [hg]; exact (below_size (by repeat (first | (with_reducible first | exact HB.out | apply below_alloc | apply pw_below_drewN | apply below_drew1) | exact HB.out))) : w.heap.size ≤ gb202)); clear HO_4; clear HB; have HO_4 := n0_; have HB := n1_; have BK202 := n2_; have GW202 := n3_; have GE202 := n4_; clear n0_ n1_ n2_ n3_ n4_; clear hb hbox hg; have hcz30_0 : w29.cell? ⟨gb202, 0, none⟩ = some (.int .i64 0) := (blk_cell BK202.out 0).trans rfl; have hcz30_1 : w29.cell? ⟨gb202, 1, none⟩ = some (.string (⟨#[]⟩ : ByteArray)) := (blk_cell BK202.out 1).trans rfl; have hcz30_2 : w29.cell? ⟨gb202, 2, none⟩ = some (.int .i64 0) := (blk_cell BK202.out 2).trans rfl; have hfz30_0 := blk_frozen BK202.out 0; have hfz30_1 := blk_frozen BK202.out 1; have hfz30_2 := blk_frozen BK202.out 2))
                    (try simp only [Act.put, List.setIfInBounds_toArray, List.set_cons_zero, List.set_cons_succ])
                    go_cut [14] (fun v14 wc => ∃ (kq : Nat) (x14_27 : ByteArray), v14 = .string x14_27 ∧ Aside0 (bournelaw13_LexBack.j2 kq a0 t186 t187 x11_2 x12_2 x14_27 ((rd_T32 t187 x12_2).f0) ((rd_T32 t187 x12_2).f1) ((rd_T32 t187 x12_2).f2) = some r) ∧ Aside0 (kq ≤ k2) ∧ Aside0 (Kd.R k32 32 wc w.heap.size (fun k_ => k_ ≠ gb202) (.slice (some ad201) t187.length co12) t187) ∧ Aside0 (wc.heap[gb202]? = some (.cells #[.int .i64 ((rd_T32 t187 x12_2).f0), .string ((rd_T32 t187 x12_2).f1), .int .i64 ((rd_T32 t187 x12_2).f2)] 32 (0, 0))) ∧ Aside0 (Below w.heap.size w wc))
                    case first =>
                      have H := HC28.out
                      clear HC28
                      by_cases c31 : ((rd_T32 t187 x12_2).f0) = 2
                      · rw [if_pos c31] at H
                        have c31b0 : (((rd_T32 t187 x12_2).f0) == 2) = true := beq_iff_eq.mpr c31
                        have c31b1 : (((rd_T32 t187 x12_2).f0) != 2) = false := bne_eq_false_iff_eq.mpr c31
                        clear c31
                        (first | rw [c31b0] | (simp only [i64_w, i32_w]; rw [c31b0]) | skip)
                        by_cases c32 : 1 + ((rd_T32 t187 x12_2).f1).size ≤ 9223372036854775807
                        · rw [if_pos c32] at H
                          have c32b0 := eq_true c32
                          have c32b1 : decide (1 + ((rd_T32 t187 x12_2).f1).size ≤ 9223372036854775807) = true := decide_eq_true c32
                          try have c32b2 : (9223372036854775807 < 1 + ((rd_T32 t187 x12_2).f1).size) = False := eq_false (Nat.not_lt.2 c32)
                          by_cases c33 : ((⟨#[34]⟩ : ByteArray) ++ ((rd_T32 t187 x12_2).f1)).size + 1 ≤ 9223372036854775807
                          · rw [if_pos c33] at H
                            have c33b0 := eq_true c33
                            have c33b1 : decide (((⟨#[34]⟩ : ByteArray) ++ ((rd_T32 t187 x12_2).f1)).size + 1 ≤ 9223372036854775807) = true := decide_eq_true c33
                            try have c33b2 : (9223372036854775807 < ((⟨#[34]⟩ : ByteArray) ++ ((rd_T32 t187 x12_2).f1)).size + 1) = False := eq_false (Nat.not_lt.2 c33)
                            have c33b3 : (9223372036854775807 < 1 + ((rd_T32 t187 x12_2).f1).size + 1) = False := eq_false (by have h_ := c33; rw [ByteArray.size_append] at h_; have h2_ : (⟨#[34]⟩ : ByteArray).size = 1 := rfl; omega)
                            have H' := Aside0.mk H
                            clear H
                            go_wp2
                            go_meet
                            case rel => exact ⟨_, (((⟨#[34]⟩ : ByteArray) ++ ((rd_T32 t187 x12_2).f1)) ++ (⟨#[34]⟩ : ByteArray)), (by first | rfl | (simp; done) | (simp [*]; done)), H', ⟨by have := HJ8.out; have := HK2.out; first | omega | exact Nat.le_refl _⟩, ⟨by (with_reducible repeat (first | apply Kd.R_alloc | apply Kd.R_drewN | apply Kd.R_drew)); exact Kd.R_mono (Kd.R_far (p := ⟨gb202, 2, none⟩) (Kd.R_far (p := ⟨gb202, 1, none⟩) (Kd.R_far (p := ⟨gb202, 0, none⟩) (Kd.R_mono HO_4.out (fun k_ hk => (⟨hk, hk.2⟩ : _ ∧ k_ ≠ gb202))) (fun _ hk => hk.2) (.int .i64 ((rd_T32 t187 x12_2).f0))) (fun _ hk => hk.2) (.string ((rd_T32 t187 x12_2).f1))) (fun _ hk => hk.2) (.int .i64 ((rd_T32 t187 x12_2).f2))) (fun _ hk => hk.1.2)⟩, ⟨by (with_reducible repeat (first | refine blk_drewN ?_ _ | refine blk_drew ?_ | refine blk_alloc ?_ _)); refine blk_put (cs := #[.int .i64 ((rd_T32 t187 x12_2).f0), .string ((rd_T32 t187 x12_2).f1), .int .i64 0]) ?_ 2 _ rfl; (with_reducible repeat (first | refine blk_drewN ?_ _ | refine blk_drew ?_ | refine blk_alloc ?_ _)); refine blk_put (cs := #[.int .i64 ((rd_T32 t187 x12_2).f0), .string (⟨#[]⟩ : ByteArray), .int .i64 0]) ?_ 1 _ rfl; (with_reducible repeat (first | refine blk_drewN ?_ _ | refine blk_drew ?_ | refine blk_alloc ?_ _)); refine blk_put (cs := #[.int .i64 0, .string (⟨#[]⟩ : ByteArray), .int .i64 0]) ?_ 0 _ rfl; (with_reducible repeat (first | refine blk_drewN ?_ _ | refine blk_drew ?_ | refine blk_alloc ?_ _)); exact BK202.out⟩, ⟨by repeat (first | (with_reducible first | exact HB.out | apply below_alloc | apply pw_below_drewN | apply below_drew1 | refine below_set ?_ GE202.out) | exact HB.out)⟩⟩
                          · rw [if_neg c33] at H
                            exact absurd H (by simp)
                        · rw [if_neg c32] at H
                          exact absurd H (by simp)
                      · rw [if_neg c31] at H
                        have c31b0 : (((rd_T32 t187 x12_2).f0) == 2) = false := beq_eq_false_iff_ne.mpr c31
                        have c31b1 : (((rd_T32 t187 x12_2).f0) != 2) = true := bne_iff_ne.mpr c31
                        (first | rw [c31b0] | (simp only [i64_w, i32_w]; rw [c31b0]) | skip)
                        have H' := Aside0.mk H
                        clear H
                        go_wp2
                        go_meet
                        case rel => exact ⟨_, ((rd_T32 t187 x12_2).f1), (by first | rfl | (simp; done) | (simp [*]; done)), H', ⟨by have := HJ8.out; have := HK2.out; first | omega | exact Nat.le_refl _⟩, ⟨by (with_reducible repeat (first | apply Kd.R_alloc | apply Kd.R_drewN | apply Kd.R_drew)); exact Kd.R_mono (Kd.R_far (p := ⟨gb202, 2, none⟩) (Kd.R_far (p := ⟨gb202, 1, none⟩) (Kd.R_far (p := ⟨gb202, 0, none⟩) (Kd.R_mono HO_4.out (fun k_ hk => (⟨hk, hk.2⟩ : _ ∧ k_ ≠ gb202))) (fun _ hk => hk.2) (.int .i64 ((rd_T32 t187 x12_2).f0))) (fun _ hk => hk.2) (.string ((rd_T32 t187 x12_2).f1))) (fun _ hk => hk.2) (.int .i64 ((rd_T32 t187 x12_2).f2))) (fun _ hk => hk.1.2)⟩, ⟨by (with_reducible repeat (first | refine blk_drewN ?_ _ | refine blk_drew ?_ | refine blk_alloc ?_ _)); refine blk_put (cs := #[.int .i64 ((rd_T32 t187 x12_2).f0), .string ((rd_T32 t187 x12_2).f1), .int .i64 0]) ?_ 2 _ rfl; (with_reducible repeat (first | refine blk_drewN ?_ _ | refine blk_drew ?_ | refine blk_alloc ?_ _)); refine blk_put (cs := #[.int .i64 ((rd_T32 t187 x12_2).f0), .string (⟨#[]⟩ : ByteArray), .int .i64 0]) ?_ 1 _ rfl; (with_reducible repeat (first | refine blk_drewN ?_ _ | refine blk_drew ?_ | refine blk_alloc ?_ _)); refine blk_put (cs := #[.int .i64 0, .string (⟨#[]⟩ : ByteArray), .int .i64 0]) ?_ 0 _ rfl; (with_reducible repeat (first | refine blk_drewN ?_ _ | refine blk_drew ?_ | refine blk_alloc ?_ _)); exact BK202.out⟩, ⟨by repeat (first | (with_reducible first | exact HB.out | apply below_alloc | apply pw_below_drewN | apply below_drew1 | refine below_set ?_ GE202.out) | exact HB.out)⟩⟩
                    case rest =>
                      clear HC28
                      try clear c1
                      try clear c2
                      try clear p2
                      try clear q2
                      try clear hx2
                      try clear c3
                      try clear c3b0
                      try clear c3b1
                      try clear c4
                      try clear c6
                      try clear c6b0
                      try clear c6b1
                      try clear c8
                      try clear c10
                      try clear c13
                      try clear c15
                      try clear c15b0
                      try clear c15b1
                      try clear c17
                      try clear c19
                      try clear c19b0
                      try clear c19b1
                      try clear p20
                      try clear q20
                      try clear hx20
                      try clear c25
                      try clear c26
                      try clear c26b0
                      try clear c27
                      try clear c27b0
                      try clear c31
                      try clear c31b0
                      try clear c31b1
                      try clear c32
                      try clear c32b0
                      try clear c32b1
                      try clear c32b2
                      try clear c33
                      try clear c33b0
                      try clear c33b1
                      try clear c33b2
                      try clear hcz30_0
                      try clear hcz30_1
                      try clear hcz30_2
                      try clear hfz30_0
                      try clear hfz30_1
                      try clear hfz30_2
                      try clear hx201_0
                      try clear hx201_1
                      try clear hx201_2
                      try clear p2
                      try clear p201
                      try clear q201
                      obtain ⟨kq, x14_27, rfl, HA, HJ27, HO_4, BK202, HB⟩ := hcut
                      cases kq with
                      | zero => exact absurd HA.out (by simp [bournelaw13_LexBack.j2])
                      | succ kj27 =>
                        have H := HA.out
                        clear HA
                        simp only [bournelaw13_LexBack.j2] at H
                        have HC34 := Aside0.mk H
                        clear H
                        go_upto_region 19 with (fail)
                        go_cut [142] (fun v142 wc => ∃ (kq : Nat) (x142_33 : Bool), v142 = .bool x142_33 ∧ Aside0 (bournelaw13_LexBack.j3 kq a0 t186 t187 x11_2 x12_2 x14_27 x142_33 ((rd_T32 t187 x12_2).f0) ((rd_T32 t187 x12_2).f1) ((rd_T32 t187 x12_2).f2) = some r) ∧ Aside0 (kq ≤ kj27) ∧ Aside0 (Kd.R k32 32 wc w.heap.size (fun k_ => k_ ≠ gb202) (.slice (some ad201) t187.length co12) t187) ∧ Aside0 (wc.heap[gb202]? = some (.cells #[.int .i64 ((rd_T32 t187 x12_2).f0), .string ((rd_T32 t187 x12_2).f1), .int .i64 ((rd_T32 t187 x12_2).f2)] 32 (0, 0))) ∧ Aside0 (Below w.heap.size w wc))
                        case first =>
                          have H := HC34.out
                          clear HC34
                          by_cases c35 : ((rd_T32 t187 x12_2).f2) < x11_2
                          · rw [if_pos c35] at H
                            have c35b0 : decide (((rd_T32 t187 x12_2).f2) < x11_2) = true := decide_eq_true c35
                            clear c35
                            (first | rw [c35b0] | (simp only [i64_w, i32_w]; rw [c35b0]) | skip)
                            have H' := Aside0.mk H
                            clear H
                            have hcz36_0 : wc.cell? ⟨gb202, 0, none⟩ = some (.int .i64 ((rd_T32 t187 x12_2).f0)) := (blk_cell BK202.out 0).trans rfl
                            have hcz36_1 : wc.cell? ⟨gb202, 1, none⟩ = some (.string ((rd_T32 t187 x12_2).f1)) := (blk_cell BK202.out 1).trans rfl
                            have hcz36_2 : wc.cell? ⟨gb202, 2, none⟩ = some (.int .i64 ((rd_T32 t187 x12_2).f2)) := (blk_cell BK202.out 2).trans rfl
                            have hfz36_0 := blk_frozen BK202.out 0
                            have hfz36_1 := blk_frozen BK202.out 1
                            have hfz36_2 := blk_frozen BK202.out 2
                            go_wp2
                            go_meet
                            case rel => exact ⟨_, (true), (by first | rfl | (simp; done) | (simp [*]; done)), H', ⟨by have := HJ8.out; have := HK2.out; have := HJ27.out; first | omega | exact Nat.le_refl _⟩, ⟨by (with_reducible repeat (first | apply Kd.R_alloc | apply Kd.R_drewN | apply Kd.R_drew)); exact HO_4.out⟩, ⟨by (with_reducible repeat (first | refine blk_drewN ?_ _ | refine blk_drew ?_ | refine blk_alloc ?_ _)); exact BK202.out⟩, ⟨by repeat (first | (with_reducible first | exact HB.out | apply below_alloc | apply pw_below_drewN | apply below_drew1 | refine below_set ?_ GE202.out) | exact HB.out)⟩⟩
                          · rw [if_neg c35] at H
                            have c35b0 : decide (((rd_T32 t187 x12_2).f2) < x11_2) = false := decide_eq_false c35
                            clear c35
                            (first | rw [c35b0] | (simp only [i64_w, i32_w]; rw [c35b0]) | skip)
                            by_cases c37 : (wrap64 (((rd_T32 t187 x12_2).f2) + (x14_27.size : Int))) > (a0.size : Int)
                            · rw [if_pos c37] at H
                              have c37b0 : decide ((a0.size : Int) < (wrap64 (((rd_T32 t187 x12_2).f2) + (x14_27.size : Int)))) = true := decide_eq_true c37
                              clear c37
                              have H' := Aside0.mk H
                              clear H
                              have hcz38_0 : wc.cell? ⟨gb202, 0, none⟩ = some (.int .i64 ((rd_T32 t187 x12_2).f0)) := (blk_cell BK202.out 0).trans rfl
                              have hcz38_1 : wc.cell? ⟨gb202, 1, none⟩ = some (.string ((rd_T32 t187 x12_2).f1)) := (blk_cell BK202.out 1).trans rfl
                              have hcz38_2 : wc.cell? ⟨gb202, 2, none⟩ = some (.int .i64 ((rd_T32 t187 x12_2).f2)) := (blk_cell BK202.out 2).trans rfl
                              have hfz38_0 := blk_frozen BK202.out 0
                              have hfz38_1 := blk_frozen BK202.out 1
                              have hfz38_2 := blk_frozen BK202.out 2
                              go_wp2
                              go_meet
                              case rel => exact ⟨_, (true), (by first | rfl | (simp; done) | (simp [*]; done)), H', ⟨by have := HJ8.out; have := HK2.out; have := HJ27.out; first | omega | exact Nat.le_refl _⟩, ⟨by (with_reducible repeat (first | apply Kd.R_alloc | apply Kd.R_drewN | apply Kd.R_drew)); exact HO_4.out⟩, ⟨by (with_reducible repeat (first | refine blk_drewN ?_ _ | refine blk_drew ?_ | refine blk_alloc ?_ _)); exact BK202.out⟩, ⟨by repeat (first | (with_reducible first | exact HB.out | apply below_alloc | apply pw_below_drewN | apply below_drew1 | refine below_set ?_ GE202.out) | exact HB.out)⟩⟩
                            · rw [if_neg c37] at H
                              have c37b0 : decide ((a0.size : Int) < (wrap64 (((rd_T32 t187 x12_2).f2) + (x14_27.size : Int)))) = false := decide_eq_false c37
                              clear c37
                              by_cases c39 : 0 ≤ ((rd_T32 t187 x12_2).f2)
                              · rw [if_pos c39] at H
                                have c39b0 := eq_true c39
                                have c39b1 : decide (0 ≤ ((rd_T32 t187 x12_2).f2)) = true := decide_eq_true c39
                                clear c39
                                by_cases c40 : ((rd_T32 t187 x12_2).f2) ≤ (wrap64 (((rd_T32 t187 x12_2).f2) + (x14_27.size : Int)))
                                · rw [if_pos c40] at H
                                  have c40b0 := eq_true c40
                                  have c40b1 : decide (((rd_T32 t187 x12_2).f2) ≤ (wrap64 (((rd_T32 t187 x12_2).f2) + (x14_27.size : Int)))) = true := decide_eq_true c40
                                  by_cases c41 : (wrap64 (((rd_T32 t187 x12_2).f2) + (x14_27.size : Int))) ≤ (a0.size : Int)
                                  · rw [if_pos c41] at H
                                    have c41b0 := eq_true c41
                                    have c41b1 : decide ((wrap64 (((rd_T32 t187 x12_2).f2) + (x14_27.size : Int))) ≤ (a0.size : Int)) = true := decide_eq_true c41
                                    by_cases c42 : (a0.extract (((rd_T32 t187 x12_2).f2) : Int).toNat ((wrap64 (((rd_T32 t187 x12_2).f2) + (x14_27.size : Int))) : Int).toNat).toList = x14_27.toList
                                    · rw [if_pos c42] at H
                                      have c42b0 : ((a0.extract (((rd_T32 t187 x12_2).f2) : Int).toNat ((wrap64 (((rd_T32 t187 x12_2).f2) + (x14_27.size : Int))) : Int).toNat).toList == x14_27.toList) = true := beq_iff_eq.mpr c42
                                      have c42b1 : ((a0.extract (((rd_T32 t187 x12_2).f2) : Int).toNat ((wrap64 (((rd_T32 t187 x12_2).f2) + (x14_27.size : Int))) : Int).toNat).toList != x14_27.toList) = false := bne_eq_false_iff_eq.mpr c42
                                      clear c42
                                      by_cases c43 : ((((rd_T32 t187 x12_2).f0) == 4) != (x12_2 == (wrap64 ((t187.length : Int) - 1)))) = true
                                      · rw [if_pos c43] at H
                                        have c43b0 : ((((rd_T32 t187 x12_2).f0) == 4) != (x12_2 == (wrap64 ((t187.length : Int) - 1)))) = true := c43
                                        (try (have c43b1 : decide ((((rd_T32 t187 x12_2).f0) == 4) = (x12_2 == (wrap64 ((t187.length : Int) - 1)))) = false := by simpa using c43))
                                        (try (have c43b2 : ((((rd_T32 t187 x12_2).f0) == 4) == (x12_2 == (wrap64 ((t187.length : Int) - 1)))) = false := by simpa using c43))
                                        (try (have c43b3 : ¬ ((((rd_T32 t187 x12_2).f0) == 4) = (x12_2 == (wrap64 ((t187.length : Int) - 1)))) := by simpa using c43))
                                        clear c43
                                        have H' := Aside0.mk H
                                        clear H
                                        have hcz44_0 : wc.cell? ⟨gb202, 0, none⟩ = some (.int .i64 ((rd_T32 t187 x12_2).f0)) := (blk_cell BK202.out 0).trans rfl
                                        have hcz44_1 : wc.cell? ⟨gb202, 1, none⟩ = some (.string ((rd_T32 t187 x12_2).f1)) := (blk_cell BK202.out 1).trans rfl
                                        have hcz44_2 : wc.cell? ⟨gb202, 2, none⟩ = some (.int .i64 ((rd_T32 t187 x12_2).f2)) := (blk_cell BK202.out 2).trans rfl
                                        have hfz44_0 := blk_frozen BK202.out 0
                                        have hfz44_1 := blk_frozen BK202.out 1
                                        have hfz44_2 := blk_frozen BK202.out 2
                                        go_wp2
                                        go_meet
                                        case rel => exact ⟨_, (true), (by first | rfl | (simp; done) | (simp [*]; done)), H', ⟨by have := HJ8.out; have := HK2.out; have := HJ27.out; first | omega | exact Nat.le_refl _⟩, ⟨by (with_reducible repeat (first | apply Kd.R_alloc | apply Kd.R_drewN | apply Kd.R_drew)); exact HO_4.out⟩, ⟨by (with_reducible repeat (first | refine blk_drewN ?_ _ | refine blk_drew ?_ | refine blk_alloc ?_ _)); exact BK202.out⟩, ⟨by repeat (first | (with_reducible first | exact HB.out | apply below_alloc | apply pw_below_drewN | apply below_drew1 | refine below_set ?_ GE202.out) | exact HB.out)⟩⟩
                                      · rw [if_neg c43] at H
                                        have c43b0 : ((((rd_T32 t187 x12_2).f0) == 4) != (x12_2 == (wrap64 ((t187.length : Int) - 1)))) = false := by simpa using c43
                                        (try (have c43b1 : decide ((((rd_T32 t187 x12_2).f0) == 4) = (x12_2 == (wrap64 ((t187.length : Int) - 1)))) = true := by simpa using c43))
                                        (try (have c43b2 : ((((rd_T32 t187 x12_2).f0) == 4) == (x12_2 == (wrap64 ((t187.length : Int) - 1)))) = true := by simpa using c43))
                                        clear c43
                                        by_cases c45 : ((rd_T32 t187 x12_2).f0) = 4
                                        · rw [if_pos c45] at H
                                          have c45b0 : (((rd_T32 t187 x12_2).f0) == 4) = true := beq_iff_eq.mpr c45
                                          have c45b1 : (((rd_T32 t187 x12_2).f0) != 4) = false := bne_eq_false_iff_eq.mpr c45
                                          have ce_ : (wrap64 ((t187.length : Int) - 1)) = x12_2 := (eq_of_beq ((by decide : ∀ b : Bool, (true != b) = false → b = true) (x12_2 == (wrap64 ((t187.length : Int) - 1))) (by have h_ := c43b0; rw [c45b0] at h_; exact h_))).symm
                                          clear c43b0
                                          try clear c43b1
                                          try clear c43b2
                                          try clear c43b3
                                          clear c45
                                          have H' := Aside0.mk H
                                          clear H
                                          have hcz46_0 : wc.cell? ⟨gb202, 0, none⟩ = some (.int .i64 ((rd_T32 t187 x12_2).f0)) := (blk_cell BK202.out 0).trans rfl
                                          have hcz46_1 : wc.cell? ⟨gb202, 1, none⟩ = some (.string ((rd_T32 t187 x12_2).f1)) := (blk_cell BK202.out 1).trans rfl
                                          have hcz46_2 : wc.cell? ⟨gb202, 2, none⟩ = some (.int .i64 ((rd_T32 t187 x12_2).f2)) := (blk_cell BK202.out 2).trans rfl
                                          have hfz46_0 := blk_frozen BK202.out 0
                                          have hfz46_1 := blk_frozen BK202.out 1
                                          have hfz46_2 := blk_frozen BK202.out 2
                                          go_wp2
                                          go_meet
                                          case rel => exact ⟨_, (false), (by first | rfl | (simp; done) | (simp [*]; done)), H', ⟨by have := HJ8.out; have := HK2.out; have := HJ27.out; first | omega | exact Nat.le_refl _⟩, ⟨by (with_reducible repeat (first | apply Kd.R_alloc | apply Kd.R_drewN | apply Kd.R_drew)); exact HO_4.out⟩, ⟨by (with_reducible repeat (first | refine blk_drewN ?_ _ | refine blk_drew ?_ | refine blk_alloc ?_ _)); exact BK202.out⟩, ⟨by repeat (first | (with_reducible first | exact HB.out | apply below_alloc | apply pw_below_drewN | apply below_drew1 | refine below_set ?_ GE202.out) | exact HB.out)⟩⟩
                                        · rw [if_neg c45] at H
                                          have c45b0 : (((rd_T32 t187 x12_2).f0) == 4) = false := beq_eq_false_iff_ne.mpr c45
                                          have c45b1 : (((rd_T32 t187 x12_2).f0) != 4) = true := bne_iff_ne.mpr c45
                                          have ce_ : (x12_2 == (wrap64 ((t187.length : Int) - 1))) = false := (by decide : ∀ b : Bool, (false != b) = false → b = false) (x12_2 == (wrap64 ((t187.length : Int) - 1))) (by have h_ := c43b0; rw [c45b0] at h_; exact h_)
                                          clear c43b0
                                          try clear c43b1
                                          try clear c43b2
                                          try clear c43b3
                                          have H' := Aside0.mk H
                                          clear H
                                          have hcz47_0 : wc.cell? ⟨gb202, 0, none⟩ = some (.int .i64 ((rd_T32 t187 x12_2).f0)) := (blk_cell BK202.out 0).trans rfl
                                          have hcz47_1 : wc.cell? ⟨gb202, 1, none⟩ = some (.string ((rd_T32 t187 x12_2).f1)) := (blk_cell BK202.out 1).trans rfl
                                          have hcz47_2 : wc.cell? ⟨gb202, 2, none⟩ = some (.int .i64 ((rd_T32 t187 x12_2).f2)) := (blk_cell BK202.out 2).trans rfl
                                          have hfz47_0 := blk_frozen BK202.out 0
                                          have hfz47_1 := blk_frozen BK202.out 1
                                          have hfz47_2 := blk_frozen BK202.out 2
                                          go_wp2
                                          go_meet
                                          case rel => exact ⟨_, ((x14_27.toList == ([] : List UInt8))), (by first | rfl | (simp; done) | (simp [*]; done)), H', ⟨by have := HJ8.out; have := HK2.out; have := HJ27.out; first | omega | exact Nat.le_refl _⟩, ⟨by (with_reducible repeat (first | apply Kd.R_alloc | apply Kd.R_drewN | apply Kd.R_drew)); exact HO_4.out⟩, ⟨by (with_reducible repeat (first | refine blk_drewN ?_ _ | refine blk_drew ?_ | refine blk_alloc ?_ _)); exact BK202.out⟩, ⟨by repeat (first | (with_reducible first | exact HB.out | apply below_alloc | apply pw_below_drewN | apply below_drew1 | refine below_set ?_ GE202.out) | exact HB.out)⟩⟩
                                    · rw [if_neg c42] at H
                                      have c42b0 : ((a0.extract (((rd_T32 t187 x12_2).f2) : Int).toNat ((wrap64 (((rd_T32 t187 x12_2).f2) + (x14_27.size : Int))) : Int).toNat).toList == x14_27.toList) = false := beq_eq_false_iff_ne.mpr c42
                                      have c42b1 : ((a0.extract (((rd_T32 t187 x12_2).f2) : Int).toNat ((wrap64 (((rd_T32 t187 x12_2).f2) + (x14_27.size : Int))) : Int).toNat).toList != x14_27.toList) = true := bne_iff_ne.mpr c42
                                      have H' := Aside0.mk H
                                      clear H
                                      have hcz48_0 : wc.cell? ⟨gb202, 0, none⟩ = some (.int .i64 ((rd_T32 t187 x12_2).f0)) := (blk_cell BK202.out 0).trans rfl
                                      have hcz48_1 : wc.cell? ⟨gb202, 1, none⟩ = some (.string ((rd_T32 t187 x12_2).f1)) := (blk_cell BK202.out 1).trans rfl
                                      have hcz48_2 : wc.cell? ⟨gb202, 2, none⟩ = some (.int .i64 ((rd_T32 t187 x12_2).f2)) := (blk_cell BK202.out 2).trans rfl
                                      have hfz48_0 := blk_frozen BK202.out 0
                                      have hfz48_1 := blk_frozen BK202.out 1
                                      have hfz48_2 := blk_frozen BK202.out 2
                                      go_wp2
                                      go_meet
                                      case rel => exact ⟨_, (true), (by first | rfl | (simp; done) | (simp [*]; done)), H', ⟨by have := HJ8.out; have := HK2.out; have := HJ27.out; first | omega | exact Nat.le_refl _⟩, ⟨by (with_reducible repeat (first | apply Kd.R_alloc | apply Kd.R_drewN | apply Kd.R_drew)); exact HO_4.out⟩, ⟨by (with_reducible repeat (first | refine blk_drewN ?_ _ | refine blk_drew ?_ | refine blk_alloc ?_ _)); exact BK202.out⟩, ⟨by repeat (first | (with_reducible first | exact HB.out | apply below_alloc | apply pw_below_drewN | apply below_drew1 | refine below_set ?_ GE202.out) | exact HB.out)⟩⟩
                                  · rw [if_neg c41] at H
                                    exact absurd H (by simp)
                                · rw [if_neg c40] at H
                                  exact absurd H (by simp)
                              · rw [if_neg c39] at H
                                exact absurd H (by simp)
                        case rest =>
                          clear HC34
                          try clear c1
                          try clear c2
                          try clear p2
                          try clear q2
                          try clear hx2
                          try clear c3
                          try clear c3b0
                          try clear c3b1
                          try clear c4
                          try clear c6
                          try clear c6b0
                          try clear c6b1
                          try clear p6
                          try clear c8
                          try clear c10
                          try clear c13
                          try clear c15
                          try clear c15b0
                          try clear c15b1
                          try clear c17
                          try clear c19
                          try clear c19b0
                          try clear c19b1
                          try clear p20
                          try clear q20
                          try clear hx20
                          try clear c25
                          try clear c26
                          try clear c26b0
                          try clear c27
                          try clear c27b0
                          try clear c31
                          try clear c31b0
                          try clear c31b1
                          try clear c32
                          try clear c32b0
                          try clear c32b1
                          try clear c32b2
                          try clear c33
                          try clear c33b0
                          try clear c33b1
                          try clear c33b2
                          try clear c35
                          try clear c35b0
                          try clear c37
                          try clear c37b0
                          try clear c39
                          try clear c39b0
                          try clear c39b1
                          try clear c40
                          try clear c40b0
                          try clear c40b1
                          try clear c41
                          try clear c41b0
                          try clear c41b1
                          try clear c42
                          try clear c42b0
                          try clear c42b1
                          try clear c43
                          try clear c43b0
                          try clear c43b1
                          try clear c43b2
                          try clear c45
                          try clear c45b0
                          try clear c45b1
                          try clear hcz30_0
                          try clear hcz30_1
                          try clear hcz30_2
                          try clear hcz36_0
                          try clear hcz36_1
                          try clear hcz36_2
                          try clear hcz38_0
                          try clear hcz38_1
                          try clear hcz38_2
                          try clear hcz44_0
                          try clear hcz44_1
                          try clear hcz44_2
                          try clear hcz46_0
                          try clear hcz46_1
                          try clear hcz46_2
                          try clear hcz47_0
                          try clear hcz47_1
                          try clear hcz47_2
                          try clear hcz48_0
                          try clear hcz48_1
                          try clear hcz48_2
                          try clear hfz30_0
                          try clear hfz30_1
                          try clear hfz30_2
                          try clear hfz36_0
                          try clear hfz36_1
                          try clear hfz36_2
                          try clear hfz38_0
                          try clear hfz38_1
                          try clear hfz38_2
                          try clear hfz44_0
                          try clear hfz44_1
                          try clear hfz44_2
                          try clear hfz46_0
                          try clear hfz46_1
                          try clear hfz46_2
                          try clear hfz47_0
                          try clear hfz47_1
                          try clear hfz47_2
                          try clear hfz48_0
                          try clear hfz48_1
                          try clear hfz48_2
                          try clear hx201_0
                          try clear hx201_1
                          try clear hx201_2
                          try clear p2
                          try clear p20
                          try clear p201
                          try clear q2
                          try clear q20
                          try clear q201
                          obtain ⟨kq, x142_33, rfl, HA, HJ33, HO_4, BK202, HB⟩ := hcut
                          cases kq with
                          | zero => exact absurd HA.out (by simp [bournelaw13_LexBack.j3])
                          | succ kj33 =>
                            have H := HA.out
                            clear HA
                            simp only [bournelaw13_LexBack.j3] at H
                            by_cases c49 : x142_33 = true
                            · subst c49
                              have H1 : (some false) = some r := by rw [if_pos rfl] at H; exact H
                              clear H
                              have H := H1
                              clear H1
                              obtain rfl := Option.some.inj H
                              go_wp2
                              go_ret
                              exact ⟨by first | rfl | (simp [errW_none, errW_some] <;> rfl) | (simp [*, errW_none, errW_some] <;> rfl), by repeat (first | (with_reducible first | exact HB.out | apply below_alloc | apply pw_below_drewN | apply below_drew1 | refine below_set ?_ GE202.out) | exact HB.out)⟩
                            · replace c49 := Bool.eq_false_iff.mpr c49
                              subst c49
                              have H1 : (if 0 ≤ x11_2 then (if x11_2 ≤ ((rd_T32 t187 x12_2).f2) then (if ((rd_T32 t187 x12_2).f2) ≤ (a0.size : Int) then ((lex_Scan.f (a0.extract (x11_2 : Int).toNat (((rd_T32 t187 x12_2).f2) : Int).toNat)).bind fun bt203 => (if bt203.2.1 = 0 then (if (bt203.1.length : Int) = 1 then (bournelaw13_LexBack.l0 kj33 a0 t186 t187 (wrap64 (((rd_T32 t187 x12_2).f2) + (x14_27.size : Int))) (wrap64 (x12_2 + 1))) else (some false)) else (some false))) else (none)) else (none)) else (none)) = some r := by rw [if_neg (show ¬ (false = true) by decide)] at H; exact H
                              clear H
                              have H := H1
                              clear H1
                              by_cases c50 : 0 ≤ x11_2
                              · rw [if_pos c50] at H
                                have c50b0 := eq_true c50
                                have c50b1 : decide (0 ≤ x11_2) = true := decide_eq_true c50
                                clear c50
                                by_cases c51 : x11_2 ≤ ((rd_T32 t187 x12_2).f2)
                                · rw [if_pos c51] at H
                                  have c51b0 := eq_true c51
                                  have c51b1 : decide (x11_2 ≤ ((rd_T32 t187 x12_2).f2)) = true := decide_eq_true c51
                                  clear c51
                                  by_cases c52 : ((rd_T32 t187 x12_2).f2) ≤ (a0.size : Int)
                                  · rw [if_pos c52] at H
                                    have c52b0 := eq_true c52
                                    have c52b1 : decide (((rd_T32 t187 x12_2).f2) ≤ (a0.size : Int)) = true := decide_eq_true c52
                                    clear c52
                                    replace H := Option.bind_eq_some_iff.mp H
                                    obtain ⟨⟨t203, t204, t205⟩, A530, H⟩ := H
                                    replace H : (if t204 = 0 then (if (t203.length : Int) = 1 then (bournelaw13_LexBack.l0 kj33 a0 t186 t187 (wrap64 (((rd_T32 t187 x12_2).f2) + (x14_27.size : Int))) (wrap64 (x12_2 + 1))) else (some false)) else (some false)) = some r := H
                                    have A53 := Aside0.mk A530
                                    clear A530
                                    by_cases c54 : t204 = 0
                                    · rw [if_pos c54] at H
                                      have c54b0 : (t204 == 0) = true := beq_iff_eq.mpr c54
                                      have c54b1 : (t204 != 0) = false := bne_eq_false_iff_eq.mpr c54
                                      clear c54
                                      by_cases c55 : (t203.length : Int) = 1
                                      · rw [if_pos c55] at H
                                        have c55b0 : ((t203.length : Int) == 1) = true := beq_iff_eq.mpr c55
                                        have c55b1 : ((t203.length : Int) != 1) = false := bne_eq_false_iff_eq.mpr c55
                                        clear c55
                                        have H' := Aside0.mk H
                                        clear H
                                        have hcz56_0 : wc.cell? ⟨gb202, 0, none⟩ = some (.int .i64 ((rd_T32 t187 x12_2).f0)) := (blk_cell BK202.out 0).trans rfl
                                        have hcz56_1 : wc.cell? ⟨gb202, 1, none⟩ = some (.string ((rd_T32 t187 x12_2).f1)) := (blk_cell BK202.out 1).trans rfl
                                        have hcz56_2 : wc.cell? ⟨gb202, 2, none⟩ = some (.int .i64 ((rd_T32 t187 x12_2).f2)) := (blk_cell BK202.out 2).trans rfl
                                        have hfz56_0 := blk_frozen BK202.out 0
                                        have hfz56_1 := blk_frozen BK202.out 1
                                        have hfz56_2 := blk_frozen BK202.out 2
                                        go_wp2_with (first | ((with_reducible refine gate_callee (f := 10) rfl ?_); refine goesL_ (some 149) rfl rfl Tryd.func10 (by kernel_rfl) rfl #[.string (a0.extract (x11_2 : Int).toNat (((rd_T32 t187 x12_2).f2) : Int).toNat)] rfl (by (try simp only [List.map_toArray, List.map_cons, List.map_nil]); first | done | rfl | (simp only [List.length_drop, List.length_take]; rfl)) ?_; (with_reducible refine (lex_Scan.calls (a0.extract (x11_2 : Int).toNat (((rd_T32 t187 x12_2).f2) : Int).toNat) t203 t204 t205 _ A53.out).mono ?_); rintro e w57 ⟨v206, rfl, ho0, hb⟩; refine ⟨_, rfl, ?_⟩; have n0_ := Aside0.mk (Kd.R_elder' (by (with_reducible repeat (first | apply Kd.R_alloc | apply Kd.R_drewN | apply Kd.R_drew)); exact HO_4.out) (Kd.R_base ho0) hb); have n1_ := Aside0.mk (Kd.R_lower (Kd.R_newB (Kd.R_new' ho0 (Kd.R_lt (by (with_reducible repeat (first | apply Kd.R_alloc | apply Kd.R_drewN | apply Kd.R_drew)); exact HO_4.out))) (g := gb202) (o := .cells #[.int .i64 ((rd_T32 t187 x12_2).f0), .string ((rd_T32 t187 x12_2).f1), .int .i64 ((rd_T32 t187 x12_2).f2)] 32 (0, 0)) (by (with_reducible repeat (first | refine blk_drewN ?_ _ | refine blk_drew ?_ | refine blk_alloc ?_ _)); exact BK202.out)) (below_size (by repeat (first | (with_reducible first | exact HB.out | apply below_alloc | apply pw_below_drewN | apply below_drew1 | refine below_set ?_ GE202.out) | exact HB.out)))); have n2_ := Aside0.mk (blk_below (g := gb202) (o := .cells #[.int .i64 ((rd_T32 t187 x12_2).f0), .string ((rd_T32 t187 x12_2).f1), .int .i64 ((rd_T32 t187 x12_2).f2)] 32 (0, 0)) (by (with_reducible repeat (first | refine blk_drewN ?_ _ | refine blk_drew ?_ | refine blk_alloc ?_ _)); exact BK202.out) hb); have n3_ := Aside0.mk (below_step (by repeat (first | (with_reducible first | exact HB.out | apply below_alloc | apply pw_below_drewN | apply below_drew1 | refine below_set ?_ GE202.out) | exact HB.out)) hb); clear HO_4; clear BK202; clear HB; have HO_4 := n0_; have HO207 := n1_; have BK202 := n2_; have HB := n3_; clear n0_ n1_ n2_ n3_; (try clear hb); (try clear hb2); (try clear hk); (try clear hi); (try clear ho0); obtain ⟨Ao58, co58, eo58⟩ := Kd.R_slice HO207.out; subst eo58; have hcz59_0 : w57.cell? ⟨gb202, 0, none⟩ = some (.int .i64 ((rd_T32 t187 x12_2).f0)) := (blk_cell BK202.out 0).trans rfl; have hcz59_1 : w57.cell? ⟨gb202, 1, none⟩ = some (.string ((rd_T32 t187 x12_2).f1)) := (blk_cell BK202.out 1).trans rfl; have hcz59_2 : w57.cell? ⟨gb202, 2, none⟩ = some (.int .i64 ((rd_T32 t187 x12_2).f2)) := (blk_cell BK202.out 2).trans rfl; have hfz59_0 := blk_frozen BK202.out 0; have hfz59_1 := blk_frozen BK202.out 1; have hfz59_2 := blk_frozen BK202.out 2))
                                        go_roundg kj33
                                        case measure => have := HJ8.out; have := HK2.out; have := HJ27.out; have := HJ33.out; omega
                                        case rel => exact ⟨(wrap64 (((rd_T32 t187 x12_2).f2) + (x14_27.size : Int))), (wrap64 (x12_2 + 1)), (by first | rfl | (simp; done) | (simp [*]; done)), (by first | rfl | (simp; done) | (simp [*]; done)), H', ⟨by have := HJ8.out; have := HK2.out; have := HJ27.out; have := HJ33.out; omega⟩, ⟨by (with_reducible repeat (first | apply Kd.R_alloc | apply Kd.R_drewN | apply Kd.R_drew)); exact Kd.R_mono HO_4.out (fun _ hk => trivial)⟩, ⟨by repeat (first | (with_reducible first | exact HB.out | apply below_alloc | apply pw_below_drewN | apply below_drew1 | refine below_set ?_ GE202.out) | exact HB.out)⟩⟩
                                      · rw [if_neg c55] at H
                                        have c55b0 : ((t203.length : Int) == 1) = false := beq_eq_false_iff_ne.mpr c55
                                        have c55b1 : ((t203.length : Int) != 1) = true := bne_iff_ne.mpr c55
                                        obtain rfl := Option.some.inj H
                                        have hcz60_0 : wc.cell? ⟨gb202, 0, none⟩ = some (.int .i64 ((rd_T32 t187 x12_2).f0)) := (blk_cell BK202.out 0).trans rfl
                                        have hcz60_1 : wc.cell? ⟨gb202, 1, none⟩ = some (.string ((rd_T32 t187 x12_2).f1)) := (blk_cell BK202.out 1).trans rfl
                                        have hcz60_2 : wc.cell? ⟨gb202, 2, none⟩ = some (.int .i64 ((rd_T32 t187 x12_2).f2)) := (blk_cell BK202.out 2).trans rfl
                                        have hfz60_0 := blk_frozen BK202.out 0
                                        have hfz60_1 := blk_frozen BK202.out 1
                                        have hfz60_2 := blk_frozen BK202.out 2
                                        go_wp2_with (first | ((with_reducible refine gate_callee (f := 10) rfl ?_); refine goesL_ (some 149) rfl rfl Tryd.func10 (by kernel_rfl) rfl #[.string (a0.extract (x11_2 : Int).toNat (((rd_T32 t187 x12_2).f2) : Int).toNat)] rfl (by (try simp only [List.map_toArray, List.map_cons, List.map_nil]); first | done | rfl | (simp only [List.length_drop, List.length_take]; rfl)) ?_; (with_reducible refine (lex_Scan.calls (a0.extract (x11_2 : Int).toNat (((rd_T32 t187 x12_2).f2) : Int).toNat) t203 t204 t205 _ A53.out).mono ?_); rintro e w61 ⟨v206, rfl, ho0, hb⟩; refine ⟨_, rfl, ?_⟩; have n0_ := Aside0.mk (Kd.R_elder' (by (with_reducible repeat (first | apply Kd.R_alloc | apply Kd.R_drewN | apply Kd.R_drew)); exact HO_4.out) (Kd.R_base ho0) hb); have n1_ := Aside0.mk (Kd.R_lower (Kd.R_newB (Kd.R_new' ho0 (Kd.R_lt (by (with_reducible repeat (first | apply Kd.R_alloc | apply Kd.R_drewN | apply Kd.R_drew)); exact HO_4.out))) (g := gb202) (o := .cells #[.int .i64 ((rd_T32 t187 x12_2).f0), .string ((rd_T32 t187 x12_2).f1), .int .i64 ((rd_T32 t187 x12_2).f2)] 32 (0, 0)) (by (with_reducible repeat (first | refine blk_drewN ?_ _ | refine blk_drew ?_ | refine blk_alloc ?_ _)); exact BK202.out)) (below_size (by repeat (first | (with_reducible first | exact HB.out | apply below_alloc | apply pw_below_drewN | apply below_drew1 | refine below_set ?_ GE202.out) | exact HB.out)))); have n2_ := Aside0.mk (blk_below (g := gb202) (o := .cells #[.int .i64 ((rd_T32 t187 x12_2).f0), .string ((rd_T32 t187 x12_2).f1), .int .i64 ((rd_T32 t187 x12_2).f2)] 32 (0, 0)) (by (with_reducible repeat (first | refine blk_drewN ?_ _ | refine blk_drew ?_ | refine blk_alloc ?_ _)); exact BK202.out) hb); have n3_ := Aside0.mk (below_step (by repeat (first | (with_reducible first | exact HB.out | apply below_alloc | apply pw_below_drewN | apply below_drew1 | refine below_set ?_ GE202.out) | exact HB.out)) hb); clear HO_4; clear BK202; clear HB; have HO_4 := n0_; have HO207 := n1_; have BK202 := n2_; have HB := n3_; clear n0_ n1_ n2_ n3_; (try clear hb); (try clear hb2); (try clear hk); (try clear hi); (try clear ho0); obtain ⟨Ao62, co62, eo62⟩ := Kd.R_slice HO207.out; subst eo62))
                                        go_ret
                                        exact ⟨by first | rfl | (simp [errW_none, errW_some] <;> rfl) | (simp [*, errW_none, errW_some] <;> rfl), by repeat (first | (with_reducible first | exact HB.out | apply below_alloc | apply pw_below_drewN | apply below_drew1 | refine below_set ?_ GE202.out) | exact HB.out)⟩
                                    · rw [if_neg c54] at H
                                      have c54b0 : (t204 == 0) = false := beq_eq_false_iff_ne.mpr c54
                                      have c54b1 : (t204 != 0) = true := bne_iff_ne.mpr c54
                                      obtain rfl := Option.some.inj H
                                      have hcz63_0 : wc.cell? ⟨gb202, 0, none⟩ = some (.int .i64 ((rd_T32 t187 x12_2).f0)) := (blk_cell BK202.out 0).trans rfl
                                      have hcz63_1 : wc.cell? ⟨gb202, 1, none⟩ = some (.string ((rd_T32 t187 x12_2).f1)) := (blk_cell BK202.out 1).trans rfl
                                      have hcz63_2 : wc.cell? ⟨gb202, 2, none⟩ = some (.int .i64 ((rd_T32 t187 x12_2).f2)) := (blk_cell BK202.out 2).trans rfl
                                      have hfz63_0 := blk_frozen BK202.out 0
                                      have hfz63_1 := blk_frozen BK202.out 1
                                      have hfz63_2 := blk_frozen BK202.out 2
                                      go_wp2_with (first | ((with_reducible refine gate_callee (f := 10) rfl ?_); refine goesL_ (some 149) rfl rfl Tryd.func10 (by kernel_rfl) rfl #[.string (a0.extract (x11_2 : Int).toNat (((rd_T32 t187 x12_2).f2) : Int).toNat)] rfl (by (try simp only [List.map_toArray, List.map_cons, List.map_nil]); first | done | rfl | (simp only [List.length_drop, List.length_take]; rfl)) ?_; (with_reducible refine (lex_Scan.calls (a0.extract (x11_2 : Int).toNat (((rd_T32 t187 x12_2).f2) : Int).toNat) t203 t204 t205 _ A53.out).mono ?_); rintro e w64 ⟨v206, rfl, ho0, hb⟩; refine ⟨_, rfl, ?_⟩; have n0_ := Aside0.mk (Kd.R_elder' (by (with_reducible repeat (first | apply Kd.R_alloc | apply Kd.R_drewN | apply Kd.R_drew)); exact HO_4.out) (Kd.R_base ho0) hb); have n1_ := Aside0.mk (Kd.R_lower (Kd.R_newB (Kd.R_new' ho0 (Kd.R_lt (by (with_reducible repeat (first | apply Kd.R_alloc | apply Kd.R_drewN | apply Kd.R_drew)); exact HO_4.out))) (g := gb202) (o := .cells #[.int .i64 ((rd_T32 t187 x12_2).f0), .string ((rd_T32 t187 x12_2).f1), .int .i64 ((rd_T32 t187 x12_2).f2)] 32 (0, 0)) (by (with_reducible repeat (first | refine blk_drewN ?_ _ | refine blk_drew ?_ | refine blk_alloc ?_ _)); exact BK202.out)) (below_size (by repeat (first | (with_reducible first | exact HB.out | apply below_alloc | apply pw_below_drewN | apply below_drew1 | refine below_set ?_ GE202.out) | exact HB.out)))); have n2_ := Aside0.mk (blk_below (g := gb202) (o := .cells #[.int .i64 ((rd_T32 t187 x12_2).f0), .string ((rd_T32 t187 x12_2).f1), .int .i64 ((rd_T32 t187 x12_2).f2)] 32 (0, 0)) (by (with_reducible repeat (first | refine blk_drewN ?_ _ | refine blk_drew ?_ | refine blk_alloc ?_ _)); exact BK202.out) hb); have n3_ := Aside0.mk (below_step (by repeat (first | (with_reducible first | exact HB.out | apply below_alloc | apply pw_below_drewN | apply below_drew1 | refine below_set ?_ GE202.out) | exact HB.out)) hb); clear HO_4; clear BK202; clear HB; have HO_4 := n0_; have HO207 := n1_; have BK202 := n2_; have HB := n3_; clear n0_ n1_ n2_ n3_; (try clear hb); (try clear hb2); (try clear hk); (try clear hi); (try clear ho0)))
                                      go_ret
                                      exact ⟨by first | rfl | (simp [errW_none, errW_some] <;> rfl) | (simp [*, errW_none, errW_some] <;> rfl), by repeat (first | (with_reducible first | exact HB.out | apply below_alloc | apply pw_below_drewN | apply below_drew1 | refine below_set ?_ GE202.out) | exact HB.out)⟩
                                  · rw [if_neg c52] at H
                                    exact absurd H (by simp)
                                · rw [if_neg c51] at H
                                  exact absurd H (by simp)
                              · rw [if_neg c50] at H
                                exact absurd H (by simp)
                  · rw [if_neg c27] at H
                    exact absurd H (by simp)
                · rw [if_neg c26] at H
                  have c26b0 : decide (x12_2 < (t187.length : Int)) = false := decide_eq_false c26
                  clear c26
                  by_cases c65 : t186 = true
                  · subst c65
                    have H1 : (if x11_2 = (a0.size : Int) then (if 0 ≤ (wrap64 ((t187.length : Int) - 1)) then (if (wrap64 ((t187.length : Int) - 1)) < (t187.length : Int) then (some (((rd_T32 t187 (wrap64 ((t187.length : Int) - 1))).f2) == (a0.size : Int))) else (none)) else (none)) else (some false)) = some r := by rw [if_pos rfl] at H; exact H
                    clear H
                    have H := H1
                    clear H1
                    by_cases c66 : x11_2 = (a0.size : Int)
                    · rw [if_pos c66] at H
                      have c66b0 : (x11_2 == (a0.size : Int)) = true := beq_iff_eq.mpr c66
                      have c66b1 : (x11_2 != (a0.size : Int)) = false := bne_eq_false_iff_eq.mpr c66
                      clear c66
                      obtain ⟨ji67, hji67⟩ : ∃ j_ : Int, (wrap64 ((t187.length : Int) - 1)) = j_ := ⟨_, rfl⟩
                      replace H : (if 0 ≤ (ji67) then (if (ji67) < (t187.length : Int) then (some (((rd_T32 t187 (ji67)).f2) == (a0.size : Int))) else (none)) else (none)) = some r := by first | (rw [hji67] at H; exact H) | (simp only [hji67] at H ⊢; exact H)
                      have hji67w : (IntKind.i64.wrap ((t187.length : Int) - 1)) = ji67 := (i64_w _).trans hji67
                      by_cases c68 : 0 ≤ (ji67)
                      · rw [if_pos c68] at H
                        have c68b0 : decide (0 ≤ (ji67)) = true := decide_eq_true c68
                        clear c68
                        by_cases c69 : (ji67) < (t187.length : Int)
                        · rw [if_pos c69] at H
                          have c69b0 : decide ((ji67) < (t187.length : Int)) = true := decide_eq_true c69
                          clear c69
                          obtain rfl := Option.some.inj H
                          have p200 : 0 ≤ ((ji67) : Int) := of_decide_eq_true (by first | (with_reducible assumption) | assumption)
                          have q200 : (ji67) < (t187.length : Int) := of_decide_eq_true (by first | (with_reducible assumption) | assumption)
                          obtain ⟨ad200, e200, hx200_0, hx200_1, hx200_2⟩ := at_T32 (Kd.R_reads' HO_4.out).2.2 (ji67) p200 q200
                          cases e200
                          replace p200 := eq_true p200
                          replace q200 := eq_true q200
                          go_wp2
                          go_ret
                          exact ⟨by first | rfl | (simp [errW_none, errW_some] <;> rfl) | (simp only [← hji67]; first | rfl | (simp [errW_none, errW_some] <;> rfl)) | (simp [*, errW_none, errW_some] <;> rfl), by repeat (first | (with_reducible first | exact HB.out | apply below_alloc | apply pw_below_drewN | apply below_drew1) | exact HB.out)⟩
                        · rw [if_neg c69] at H
                          exact absurd H (by simp)
                      · rw [if_neg c68] at H
                        exact absurd H (by simp)
                    · rw [if_neg c66] at H
                      have c66b0 : (x11_2 == (a0.size : Int)) = false := beq_eq_false_iff_ne.mpr c66
                      have c66b1 : (x11_2 != (a0.size : Int)) = true := bne_iff_ne.mpr c66
                      obtain rfl := Option.some.inj H
                      go_wp2
                      go_ret
                      exact ⟨by first | rfl | (simp [errW_none, errW_some] <;> rfl) | (simp [*, errW_none, errW_some] <;> rfl), by repeat (first | (with_reducible first | exact HB.out | apply below_alloc | apply pw_below_drewN | apply below_drew1) | exact HB.out)⟩
                  · replace c65 := Bool.eq_false_iff.mpr c65
                    subst c65
                    have H1 : (some false) = some r := by rw [if_neg (show ¬ (false = true) by decide)] at H; exact H
                    clear H
                    have H := H1
                    clear H1
                    obtain rfl := Option.some.inj H
                    go_wp2
                    go_ret
                    exact ⟨by first | rfl | (simp [errW_none, errW_some] <;> rfl) | (simp [*, errW_none, errW_some] <;> rfl), by repeat (first | (with_reducible first | exact HB.out | apply below_alloc | apply pw_below_drewN | apply below_drew1) | exact HB.out)⟩
    · rw [if_neg c6] at H
      have c6b0 : (t188 == 0) = false := beq_eq_false_iff_ne.mpr c6
      have c6b1 : (t188 != 0) = true := bne_iff_ne.mpr c6
      by_cases c70 : t186 = true
      · subst c70
        have H1 : (if t188 = 2 then (if (t187.length : Int) = 0 then (if t189 ≥ 0 then (some (decide (t189 < (a0.size : Int)))) else (some false)) else (some false)) else (some false)) = some r := by rw [if_pos rfl] at H; exact H
        clear H
        have H := H1
        clear H1
        by_cases c71 : t188 = 2
        · rw [if_pos c71] at H
          have c71b0 : (t188 == 2) = true := beq_iff_eq.mpr c71
          have c71b1 : (t188 != 2) = false := bne_eq_false_iff_eq.mpr c71
          clear c71
          by_cases c72 : (t187.length : Int) = 0
          · rw [if_pos c72] at H
            have c72b0 : ((t187.length : Int) == 0) = true := beq_iff_eq.mpr c72
            have c72b1 : ((t187.length : Int) != 0) = false := bne_eq_false_iff_eq.mpr c72
            clear c72
            by_cases c73 : t189 ≥ 0
            · rw [if_pos c73] at H
              have c73b0 : decide (0 ≤ t189) = true := decide_eq_true c73
              clear c73
              obtain rfl := Option.some.inj H
              go_enter Tryd.func4, Tryd.ntmps4
              go_wp2_with (first | ((with_reducible refine gate_callee (f := 8) rfl ?_); refine goesL_ (some 18) rfl rfl Tryd.func8 (by kernel_rfl) rfl #[] rfl (by (try simp only [List.map_toArray, List.map_cons, List.map_nil]); first | done | rfl | (simp only [List.length_drop, List.length_take]; rfl)) ?_; (with_reducible refine (bournelaw13_small.calls k  true _ A2.out).mono ?_); rintro e w74 ⟨rfl, hb⟩; refine ⟨_, rfl, ?_⟩; have n0_ := Aside0.mk (below_step (by repeat (first | (with_reducible first | exact HB.out | apply below_alloc | apply pw_below_drewN | apply below_drew1) | exact HB.out)) hb); clear HB; have HB := n0_; clear n0_; (try clear hb); (try clear hb2); (try clear hk); (try clear hi)) | ((with_reducible refine gate_callee (f := 10) rfl ?_); refine goesL_ (some 25) rfl rfl Tryd.func10 (by kernel_rfl) rfl #[.string a0] rfl (by (try simp only [List.map_toArray, List.map_cons, List.map_nil]); first | done | rfl | (simp only [List.length_drop, List.length_take]; rfl)) ?_; (with_reducible refine (lex_Scan.calls a0 t187 t188 t189 _ A5.out).mono ?_); rintro e w75 ⟨v190, rfl, ho0, hb⟩; refine ⟨_, rfl, ?_⟩; have n0_ := Aside0.mk (Kd.R_lower ho0 (below_size (by repeat (first | (with_reducible first | exact HB.out | apply below_alloc | apply pw_below_drewN | apply below_drew1) | exact HB.out)))); have n1_ := Aside0.mk (below_step (by repeat (first | (with_reducible first | exact HB.out | apply below_alloc | apply pw_below_drewN | apply below_drew1) | exact HB.out)) hb); clear HB; have HO191 := n0_; have HB := n1_; clear n0_ n1_; (try clear hb); (try clear hb2); (try clear hk); (try clear hi); (try clear ho0); obtain ⟨Ao76, co76, eo76⟩ := Kd.R_slice HO191.out; subst eo76))
              go_ret
              exact ⟨by first | rfl | (simp [errW_none, errW_some] <;> rfl) | (simp [*, errW_none, errW_some] <;> rfl), by repeat (first | (with_reducible first | exact HB.out | apply below_alloc | apply pw_below_drewN | apply below_drew1) | exact HB.out)⟩
            · rw [if_neg c73] at H
              have c73b0 : decide (0 ≤ t189) = false := decide_eq_false c73
              clear c73
              obtain rfl := Option.some.inj H
              go_enter Tryd.func4, Tryd.ntmps4
              go_wp2_with (first | ((with_reducible refine gate_callee (f := 8) rfl ?_); refine goesL_ (some 18) rfl rfl Tryd.func8 (by kernel_rfl) rfl #[] rfl (by (try simp only [List.map_toArray, List.map_cons, List.map_nil]); first | done | rfl | (simp only [List.length_drop, List.length_take]; rfl)) ?_; (with_reducible refine (bournelaw13_small.calls k  true _ A2.out).mono ?_); rintro e w77 ⟨rfl, hb⟩; refine ⟨_, rfl, ?_⟩; have n0_ := Aside0.mk (below_step (by repeat (first | (with_reducible first | exact HB.out | apply below_alloc | apply pw_below_drewN | apply below_drew1) | exact HB.out)) hb); clear HB; have HB := n0_; clear n0_; (try clear hb); (try clear hb2); (try clear hk); (try clear hi)) | ((with_reducible refine gate_callee (f := 10) rfl ?_); refine goesL_ (some 25) rfl rfl Tryd.func10 (by kernel_rfl) rfl #[.string a0] rfl (by (try simp only [List.map_toArray, List.map_cons, List.map_nil]); first | done | rfl | (simp only [List.length_drop, List.length_take]; rfl)) ?_; (with_reducible refine (lex_Scan.calls a0 t187 t188 t189 _ A5.out).mono ?_); rintro e w78 ⟨v190, rfl, ho0, hb⟩; refine ⟨_, rfl, ?_⟩; have n0_ := Aside0.mk (Kd.R_lower ho0 (below_size (by repeat (first | (with_reducible first | exact HB.out | apply below_alloc | apply pw_below_drewN | apply below_drew1) | exact HB.out)))); have n1_ := Aside0.mk (below_step (by repeat (first | (with_reducible first | exact HB.out | apply below_alloc | apply pw_below_drewN | apply below_drew1) | exact HB.out)) hb); clear HB; have HO191 := n0_; have HB := n1_; clear n0_ n1_; (try clear hb); (try clear hb2); (try clear hk); (try clear hi); (try clear ho0); obtain ⟨Ao79, co79, eo79⟩ := Kd.R_slice HO191.out; subst eo79))
              go_ret
              exact ⟨by first | rfl | (simp [errW_none, errW_some] <;> rfl) | (simp [*, errW_none, errW_some] <;> rfl), by repeat (first | (with_reducible first | exact HB.out | apply below_alloc | apply pw_below_drewN | apply below_drew1) | exact HB.out)⟩
          · rw [if_neg c72] at H
            have c72b0 : ((t187.length : Int) == 0) = false := beq_eq_false_iff_ne.mpr c72
            have c72b1 : ((t187.length : Int) != 0) = true := bne_iff_ne.mpr c72
            have c72b2 : ¬ (t187 = []) := fun h_ => c72 (by rw [h_]; rfl)
            obtain rfl := Option.some.inj H
            go_enter Tryd.func4, Tryd.ntmps4
            go_wp2_with (first | ((with_reducible refine gate_callee (f := 8) rfl ?_); refine goesL_ (some 18) rfl rfl Tryd.func8 (by kernel_rfl) rfl #[] rfl (by (try simp only [List.map_toArray, List.map_cons, List.map_nil]); first | done | rfl | (simp only [List.length_drop, List.length_take]; rfl)) ?_; (with_reducible refine (bournelaw13_small.calls k  true _ A2.out).mono ?_); rintro e w80 ⟨rfl, hb⟩; refine ⟨_, rfl, ?_⟩; have n0_ := Aside0.mk (below_step (by repeat (first | (with_reducible first | exact HB.out | apply below_alloc | apply pw_below_drewN | apply below_drew1) | exact HB.out)) hb); clear HB; have HB := n0_; clear n0_; (try clear hb); (try clear hb2); (try clear hk); (try clear hi)) | ((with_reducible refine gate_callee (f := 10) rfl ?_); refine goesL_ (some 25) rfl rfl Tryd.func10 (by kernel_rfl) rfl #[.string a0] rfl (by (try simp only [List.map_toArray, List.map_cons, List.map_nil]); first | done | rfl | (simp only [List.length_drop, List.length_take]; rfl)) ?_; (with_reducible refine (lex_Scan.calls a0 t187 t188 t189 _ A5.out).mono ?_); rintro e w81 ⟨v190, rfl, ho0, hb⟩; refine ⟨_, rfl, ?_⟩; have n0_ := Aside0.mk (Kd.R_lower ho0 (below_size (by repeat (first | (with_reducible first | exact HB.out | apply below_alloc | apply pw_below_drewN | apply below_drew1) | exact HB.out)))); have n1_ := Aside0.mk (below_step (by repeat (first | (with_reducible first | exact HB.out | apply below_alloc | apply pw_below_drewN | apply below_drew1) | exact HB.out)) hb); clear HB; have HO191 := n0_; have HB := n1_; clear n0_ n1_; (try clear hb); (try clear hb2); (try clear hk); (try clear hi); (try clear ho0); obtain ⟨Ao82, co82, eo82⟩ := Kd.R_slice HO191.out; subst eo82))
            go_ret
            exact ⟨by first | rfl | (simp [errW_none, errW_some] <;> rfl) | (simp [*, errW_none, errW_some] <;> rfl), by repeat (first | (with_reducible first | exact HB.out | apply below_alloc | apply pw_below_drewN | apply below_drew1) | exact HB.out)⟩
        · rw [if_neg c71] at H
          have c71b0 : (t188 == 2) = false := beq_eq_false_iff_ne.mpr c71
          have c71b1 : (t188 != 2) = true := bne_iff_ne.mpr c71
          obtain rfl := Option.some.inj H
          go_enter Tryd.func4, Tryd.ntmps4
          go_wp2_with (first | ((with_reducible refine gate_callee (f := 8) rfl ?_); refine goesL_ (some 18) rfl rfl Tryd.func8 (by kernel_rfl) rfl #[] rfl (by (try simp only [List.map_toArray, List.map_cons, List.map_nil]); first | done | rfl | (simp only [List.length_drop, List.length_take]; rfl)) ?_; (with_reducible refine (bournelaw13_small.calls k  true _ A2.out).mono ?_); rintro e w83 ⟨rfl, hb⟩; refine ⟨_, rfl, ?_⟩; have n0_ := Aside0.mk (below_step (by repeat (first | (with_reducible first | exact HB.out | apply below_alloc | apply pw_below_drewN | apply below_drew1) | exact HB.out)) hb); clear HB; have HB := n0_; clear n0_; (try clear hb); (try clear hb2); (try clear hk); (try clear hi)) | ((with_reducible refine gate_callee (f := 10) rfl ?_); refine goesL_ (some 25) rfl rfl Tryd.func10 (by kernel_rfl) rfl #[.string a0] rfl (by (try simp only [List.map_toArray, List.map_cons, List.map_nil]); first | done | rfl | (simp only [List.length_drop, List.length_take]; rfl)) ?_; (with_reducible refine (lex_Scan.calls a0 t187 t188 t189 _ A5.out).mono ?_); rintro e w84 ⟨v190, rfl, ho0, hb⟩; refine ⟨_, rfl, ?_⟩; have n0_ := Aside0.mk (Kd.R_lower ho0 (below_size (by repeat (first | (with_reducible first | exact HB.out | apply below_alloc | apply pw_below_drewN | apply below_drew1) | exact HB.out)))); have n1_ := Aside0.mk (below_step (by repeat (first | (with_reducible first | exact HB.out | apply below_alloc | apply pw_below_drewN | apply below_drew1) | exact HB.out)) hb); clear HB; have HO191 := n0_; have HB := n1_; clear n0_ n1_; (try clear hb); (try clear hb2); (try clear hk); (try clear hi); (try clear ho0)))
          go_ret
          exact ⟨by first | rfl | (simp [errW_none, errW_some] <;> rfl) | (simp [*, errW_none, errW_some] <;> rfl), by repeat (first | (with_reducible first | exact HB.out | apply below_alloc | apply pw_below_drewN | apply below_drew1) | exact HB.out)⟩
      · replace c70 := Bool.eq_false_iff.mpr c70
        subst c70
        have H1 : (some false) = some r := by rw [if_neg (show ¬ (false = true) by decide)] at H; exact H
        clear H
        have H := H1
        clear H1
        obtain rfl := Option.some.inj H
        go_enter Tryd.func4, Tryd.ntmps4
        go_wp2_with (first | ((with_reducible refine gate_callee (f := 8) rfl ?_); refine goesL_ (some 18) rfl rfl Tryd.func8 (by kernel_rfl) rfl #[] rfl (by (try simp only [List.map_toArray, List.map_cons, List.map_nil]); first | done | rfl | (simp only [List.length_drop, List.length_take]; rfl)) ?_; (with_reducible refine (bournelaw13_small.calls k  false _ A2.out).mono ?_); rintro e w85 ⟨rfl, hb⟩; refine ⟨_, rfl, ?_⟩; have n0_ := Aside0.mk (below_step (by repeat (first | (with_reducible first | exact HB.out | apply below_alloc | apply pw_below_drewN | apply below_drew1) | exact HB.out)) hb); clear HB; have HB := n0_; clear n0_; (try clear hb); (try clear hb2); (try clear hk); (try clear hi)) | ((with_reducible refine gate_callee (f := 10) rfl ?_); refine goesL_ (some 25) rfl rfl Tryd.func10 (by kernel_rfl) rfl #[.string a0] rfl (by (try simp only [List.map_toArray, List.map_cons, List.map_nil]); first | done | rfl | (simp only [List.length_drop, List.length_take]; rfl)) ?_; (with_reducible refine (lex_Scan.calls a0 t187 t188 t189 _ A5.out).mono ?_); rintro e w86 ⟨v190, rfl, ho0, hb⟩; refine ⟨_, rfl, ?_⟩; have n0_ := Aside0.mk (Kd.R_lower ho0 (below_size (by repeat (first | (with_reducible first | exact HB.out | apply below_alloc | apply pw_below_drewN | apply below_drew1) | exact HB.out)))); have n1_ := Aside0.mk (below_step (by repeat (first | (with_reducible first | exact HB.out | apply below_alloc | apply pw_below_drewN | apply below_drew1) | exact HB.out)) hb); clear HB; have HO191 := n0_; have HB := n1_; clear n0_ n1_; (try clear hb); (try clear hb2); (try clear hk); (try clear hi); (try clear ho0)))
        go_ret
        exact ⟨by first | rfl | (simp [errW_none, errW_some] <;> rfl) | (simp [*, errW_none, errW_some] <;> rfl), by repeat (first | (with_reducible first | exact HB.out | apply below_alloc | apply pw_below_drewN | apply below_drew1) | exact HB.out)⟩

/-- THE ONE PURE STATEMENT of bournelaw13_LexBack: yours. -/
def bournelaw13_LexBack.Pure : Prop := ∀ (a0 : ByteArray), a0.size ≤ 140737488351232 → ∃ k, bournelaw13_LexBack.f k a0 = some true
theorem bournelaw13_LexBack.walk (P : bournelaw13_LexBack.Pure) (a0 : ByteArray) (w : World) (w0 : a0.size ≤ 140737488351232) :
    Calls Tryd.prog 4 #[.string a0] w fun e w' => e = .returned (.bool true) ∧ Below w.heap.size w w' := by
  obtain ⟨k, h⟩ := P a0 w0
  refine (bournelaw13_LexBack.calls k a0 true w h).mono ?_
  rintro e w' ⟨rfl, hd⟩
  exact ⟨rfl, hd⟩

end Go.Proofs.YtjhinmdnabmdoaaDoor.PLex
