/- lex.first: the kind and the bytes of the token at the beginning of a string: where it is a name, a number, a string. -/
import Derived.Test.YtjhinmdnabmdoaaDoorLexC
import Derived.RegionTactic
import Derived.BigRegion
set_option linter.unusedVariables false
set_option linter.unusedSimpArgs false
namespace Go.Proofs.YtjhinmdnabmdoaaDoor.Lex
open Go.RowKit

theorem ret_two {a a' : Int} {b b' : ByteArray} (h : a = a') (hb : b = b') : Ending.returned (.tuple #[.int .i64 a, .string b]) = .returned (.tuple #[.int .i64 a', .string b']) := by rw [h, hb]
theorem below3 (w : World) (a b c : Obj) : Below w.heap.size w (((w.alloc a).alloc b).alloc c) :=
  (((Below.refl _ _).alloc (Nat.le_refl _) _).alloc (by simp) _).alloc (by simp; omega) _

theorem first_letter (s : ByteArray) (hs : s.size ≤ maxLen) (h0 : 0 < s.size) (hc : letterB s[0].toNat = true) (w : World) :
    Calls Tryd.prog 22 #[.string s] w fun e w' => e = .returned (.tuple #[.int .i64 0, .string (s.extract 0 (preN wordB s.data.toList))]) ∧ Below w.heap.size w w' := by
  have HS := Lib.hid hs
  have H := Lib.hid hc; clear hc
  unfold maxLen at hs
  go_enter Tryd.func22, Tryd.ntmps22
  go_wp2_with (first | (go_at_call 36; refine (letter_calls _ _).mono ?_; rw [H.out]; rintro e w' ⟨rfl, rfl⟩) | (go_at_call 37; refine (prefix_word _ HS.out _).mono ?_; rintro e w' ⟨rfl, rfl⟩))
  exact bodyPost_ret (v := .tuple #[.int .i64 0, .string (s.extract 0 (preN wordB s.data.toList))]) (by simp [results, Tryd.results22, go_sem]) rfl ⟨rfl, below3 _ _ _ _⟩

def wholeB (s : ByteArray) : ByteArray := s.extract 0 (preN digitB s.data.toList)
def fracB (s : ByteArray) : ByteArray := cutS (s.extract (wholeB s).size s.size) ⟨#[46]⟩
def partB (s : ByteArray) : ByteArray := (fracB s).extract 0 (preN digitB (fracB s).data.toList)
/-- The number at the beginning. -/
def numB (s : ByteArray) : ByteArray :=
  if hpB (s.extract (wholeB s).size s.size) ⟨#[46]⟩ = true ∧ (partB s).size ≠ 0 then s.extract 0 ((wholeB s).size + 1 + (partB s).size) else wholeB s

theorem cutS_size (s t : ByteArray) : (cutS s t).size ≤ s.size := by
  unfold cutS; split
  · simp
  · exact Nat.le_refl _
theorem hpB_size {s t : ByteArray} (h : hpB s t = true) : t.size ≤ s.size := by
  unfold hpB at h; simp at h; exact h.1
theorem cutS_size_yes {s t : ByteArray} (h : hpB s t = true) : (cutS s t).size = s.size - t.size := by
  rw [cutS_yes h]; simp

set_option maxHeartbeats 400000 in
theorem first_digit (s : ByteArray) (hs : s.size ≤ maxLen) (h0 : 0 < s.size) (hc : letterB s[0].toNat = false) (hd : digitB s[0].toNat = true) (w : World) :
    Calls Tryd.prog 22 #[.string s] w fun e w' => e = .returned (.tuple #[.int .i64 1, .string (numB s)]) ∧ Below w.heap.size w w' := by
  have HW : wholeB s = s.extract 0 (preN digitB s.data.toList) := rfl
  have HF : fracB s = cutS (s.extract (wholeB s).size s.size) ⟨#[46]⟩ := rfl
  have HP : partB s = (fracB s).extract 0 (preN digitB (fracB s).data.toList) := rfl
  have HN : numB s = if hpB (s.extract (wholeB s).size s.size) ⟨#[46]⟩ = true ∧ (partB s).size ≠ 0 then s.extract 0 ((wholeB s).size + 1 + (partB s).size) else wholeB s := rfl
  have hw1 : (wholeB s).size ≤ s.size := by rw [HW]; simp; omega
  have hf1 : (fracB s).size ≤ s.size := by rw [HF]; exact Nat.le_trans (cutS_size _ _) (by simp)
  have hp1 : (partB s).size ≤ (fracB s).size := by rw [HP]; simp; omega
  have hf2 : hpB (s.extract (wholeB s).size s.size) ⟨#[46]⟩ = true → (wholeB s).size + 1 + (fracB s).size ≤ s.size := by
    intro h; have h2 := cutS_size_yes h; have h3 := hpB_size h; rw [← HF] at h2; simp at h2 h3; have : (⟨#[46]⟩ : ByteArray).size = 1 := rfl; omega
  have HC1 := prefix_digit s hs
  rw [← HW] at HC1
  generalize wholeB s = whole at *
  have HC2 := cutPrefix_calls (s.extract whole.size s.size) ⟨#[46]⟩ (by simp; omega) (by decide)
  rw [← HF] at HC2
  generalize fracB s = frac at *
  have HC3 := prefix_digit frac (by omega)
  rw [← HP] at HC3
  generalize partB s = part at *
  generalize hpB (s.extract whole.size s.size) ⟨#[46]⟩ = dot at *
  have H1 := Lib.hid HC1; clear HC1
  have H2 := Lib.hid HC2; clear HC2
  have H3 := Lib.hid HC3; clear HC3
  have HN1 := Lib.hid HN; clear HN
  have H := Lib.hid hc; clear hc
  have HD := Lib.hid hd; clear hd
  clear HW HF HP
  unfold maxLen at hs
  cases dot
  · have HE : Hid (numB s = whole) := by show _ = _; rw [HN1.out]; simp
    clear HN1 hf2
    go_enter Tryd.func22, Tryd.ntmps22
    go_wp2_with (first | (go_at_call 36; refine (letter_calls _ _).mono ?_; rw [H.out]; rintro e w' ⟨rfl, rfl⟩) | (go_at_call 39; refine (digit_calls _ _).mono ?_; rw [HD.out]; rintro e w' ⟨rfl, rfl⟩) | (go_at_call 37; ((with_reducible refine (H1.out _).mono ?_); rintro e w' ⟨rfl, rfl⟩)) | (go_at_call 40; ((with_reducible refine (H2.out _).mono ?_); rintro e w' ⟨rfl, rfl⟩)))
    rw [HE.out]
    exact bodyPost_ret (v := .tuple #[.int .i64 1, .string whole]) (by simp [results, Tryd.results22, go_sem]) rfl ⟨rfl, below3 _ _ _ _⟩
  · have hf3 := hf2 rfl
    clear hf2
    by_cases hp : part.size = 0
    · have HE : Hid (numB s = whole) := by show _ = _; rw [HN1.out]; simp [hp]
      have hpl : part.toList = [] := by rw [toList_data]; exact List.eq_nil_of_length_eq_zero (by rw [← size_list]; exact hp)
      have hpl2 : (!part.toList.isEmpty) = false := by rw [hpl]; rfl
      clear HN1
      go_enter Tryd.func22, Tryd.ntmps22
      go_wp2_with (first | (go_at_call 36; refine (letter_calls _ _).mono ?_; rw [H.out]; rintro e w' ⟨rfl, rfl⟩) | (go_at_call 39; refine (digit_calls _ _).mono ?_; rw [HD.out]; rintro e w' ⟨rfl, rfl⟩) | (go_at_call 37; ((with_reducible refine (H1.out _).mono ?_); rintro e w' ⟨rfl, rfl⟩)) | (go_at_call 40; ((with_reducible refine (H2.out _).mono ?_); rintro e w' ⟨rfl, rfl⟩)) | (go_at_call 37; ((with_reducible refine (H3.out _).mono ?_); rintro e w' ⟨rfl, rfl⟩)))
      rw [HE.out]
      exact bodyPost_ret (v := .tuple #[.int .i64 1, .string whole]) (by simp [results, Tryd.results22, go_sem]) rfl ⟨rfl, below3 _ _ _ _⟩
    · have HE : Hid (numB s = s.extract 0 (whole.size + 1 + part.size)) := by show _ = _; rw [HN1.out]; simp [hp]
      have hpl : part.toList ≠ [] := by rw [toList_data]; intro h; apply hp; rw [size_list, h]; rfl
      have hpl1 : part.toList.isEmpty = false := by cases h : part.toList with | nil => exact absurd h hpl | cons _ _ => rfl
      have hpl2 : (!part.toList.isEmpty) = true := by rw [hpl1]; rfl
      clear HN1 hp hpl
      go_enter Tryd.func22, Tryd.ntmps22
      go_wp2_with (first | (go_at_call 36; refine (letter_calls _ _).mono ?_; rw [H.out]; rintro e w' ⟨rfl, rfl⟩) | (go_at_call 39; refine (digit_calls _ _).mono ?_; rw [HD.out]; rintro e w' ⟨rfl, rfl⟩) | (go_at_call 37; ((with_reducible refine (H1.out _).mono ?_); rintro e w' ⟨rfl, rfl⟩)) | (go_at_call 40; ((with_reducible refine (H2.out _).mono ?_); rintro e w' ⟨rfl, rfl⟩)) | (go_at_call 37; ((with_reducible refine (H3.out _).mono ?_); rintro e w' ⟨rfl, rfl⟩)))
      have hb1 : (whole.size : Int) + 1 + part.size ≤ s.size := by omega
      go_region
      all_goals go_wp2
      rw [HE.out]
      exact bodyPost_ret (v := .tuple #[.int .i64 1, .string (s.extract 0 (whole.size + 1 + part.size))]) (by simp [results, Tryd.results22, go_sem]) rfl ⟨rfl, (below3 _ _ _ _).drew⟩

def textBs (s : ByteArray) : ByteArray := (s.extract 1 s.size).extract 0 (preN textB (s.extract 1 s.size).data.toList)
/-- The string token at the beginning, its quotes with it; empty: there is none. -/
def strB (s : ByteArray) : ByteArray := if hpB (s.extract (1 + (textBs s).size) s.size) ⟨#[34]⟩ = true then s.extract 0 ((textBs s).size + 2) else ⟨#[]⟩

set_option maxHeartbeats 400000 in
theorem first_text (s : ByteArray) (hs : s.size ≤ maxLen) (h0 : 0 < s.size) (hc : letterB s[0].toNat = false) (hd : digitB s[0].toNat = false) (hq : ((s[0].toNat : Int) == 34) = true) (w : World) :
    Calls Tryd.prog 22 #[.string s] w fun e w' => e = .returned (.tuple #[.int .i64 2, .string (strB s)]) ∧ Below w.heap.size w w' := by
  have HX : textBs s = (s.extract 1 s.size).extract 0 (preN textB (s.extract 1 s.size).data.toList) := rfl
  have HN : strB s = if hpB (s.extract (1 + (textBs s).size) s.size) ⟨#[34]⟩ = true then s.extract 0 ((textBs s).size + 2) else ⟨#[]⟩ := rfl
  have hx1 : (textBs s).size + 1 ≤ s.size := by rw [HX]; simp; omega
  have HC1 := prefix_text (s.extract 1 s.size) (by simp; omega)
  rw [← HX] at HC1
  generalize textBs s = text at *
  have HC2 := hasPrefix_calls (s.extract (1 + text.size) s.size) ⟨#[34]⟩ (by simp; omega) (by decide)
  have hq2 : hpB (s.extract (1 + text.size) s.size) ⟨#[34]⟩ = true → text.size + 2 ≤ s.size := by
    intro h; have h3 := hpB_size h; simp at h3; have : (⟨#[34]⟩ : ByteArray).size = 1 := rfl; omega
  generalize hpB (s.extract (1 + text.size) s.size) ⟨#[34]⟩ = dot at *
  have H1 := Lib.hid HC1; clear HC1
  have H2 := Lib.hid HC2; clear HC2
  have HN1 := Lib.hid HN; clear HN
  have H := Lib.hid hc; clear hc
  have HD := Lib.hid hd; clear hd
  clear HX
  unfold maxLen at hs
  cases dot
  · have HE : Hid (strB s = ⟨#[]⟩) := by show _ = _; rw [HN1.out]; simp
    clear HN1 hq2
    go_enter Tryd.func22, Tryd.ntmps22
    go_wp2_with (first | (go_at_call 36; refine (letter_calls _ _).mono ?_; rw [H.out]; rintro e w' ⟨rfl, rfl⟩) | (go_at_call 39; refine (digit_calls _ _).mono ?_; rw [HD.out]; rintro e w' ⟨rfl, rfl⟩) | (go_at_call 37; refine (H1.out _).mono ?_; rintro e w' ⟨rfl, rfl⟩) | (go_at_call 34; refine (H2.out _).mono ?_; rintro e w' ⟨rfl, rfl⟩))
    rw [HE.out]
    exact bodyPost_ret (v := .tuple #[.int .i64 2, .string ⟨#[]⟩]) (by simp [results, Tryd.results22, go_sem]) rfl ⟨rfl, below3 _ _ _ _⟩
  · have hf3 := hq2 rfl
    clear hq2
    have HE : Hid (strB s = s.extract 0 (text.size + 2)) := by show _ = _; rw [HN1.out]; simp
    clear HN1
    go_enter Tryd.func22, Tryd.ntmps22
    go_wp2_with (first | (go_at_call 36; refine (letter_calls _ _).mono ?_; rw [H.out]; rintro e w' ⟨rfl, rfl⟩) | (go_at_call 39; refine (digit_calls _ _).mono ?_; rw [HD.out]; rintro e w' ⟨rfl, rfl⟩) | (go_at_call 37; refine (H1.out _).mono ?_; rintro e w' ⟨rfl, rfl⟩) | (go_at_call 34; refine (H2.out _).mono ?_; rintro e w' ⟨rfl, rfl⟩))
    have hb1 : (text.size : Int) + 2 ≤ s.size := by omega
    go_region
    go_wp2
    rw [HE.out]
    exact bodyPost_ret (v := .tuple #[.int .i64 2, .string (s.extract 0 (text.size + 2))]) (by simp [results, Tryd.results22, go_sem]) rfl ⟨rfl, (below3 _ _ _ _).drew⟩

end Go.Proofs.YtjhinmdnabmdoaaDoor.Lex
