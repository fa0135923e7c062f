/- Contracts of lex.letter, lex.digit, of the classes of bytes, and of lex.prefix at each class. -/
import Derived.Test.YtjhinmdnabmdoaaDoorProg
import Derived.WalkKit
import Derived.Below
import Derived.Outline
import Derived.KernelRfl
import Derived.Lib.Hide
import Derived.WalkSpells
namespace Go.Proofs.YtjhinmdnabmdoaaDoor.Lex
open Go.RowKit

def letterB (c : Int) : Bool := decide (97 ≤ bits .or .u8 c 32) && decide (bits .or .u8 c 32 ≤ 122)
def digitB (c : Int) : Bool := decide (48 ≤ c) && decide (c ≤ 57)
def wordB (c : Int) : Bool := letterB c || digitB c || c == 95
def textB (c : Int) : Bool := decide (32 ≤ c) && decide (c ≤ 126) && c != 34 && c != 92
theorem ret_bool {a b : Bool} (h : a = b) : Ending.returned (.bool a) = .returned (.bool b) := by rw [h]
theorem ret_str {a b : ByteArray} (h : a = b) : Ending.returned (.string a) = .returned (.string b) := by rw [h]
theorem ret_int {k : IntKind} {a b : Int} (h : a = b) : Ending.returned (.int k a) = .returned (.int k b) := by rw [h]

theorem letter_calls (c : Int) (w : World) : Calls Tryd.prog 36 #[.int .u8 c] w fun e w' => e = .returned (.bool (letterB c)) ∧ w = w' := by
  go_enter Tryd.func36, Tryd.ntmps36
  go_wp2
  all_goals go_ret
  · exact ⟨ret_bool (by simp [letterB]; omega), rfl⟩
  · exact ⟨ret_bool (by simp [letterB]; omega), rfl⟩

theorem digit_calls (c : Int) (w : World) : Calls Tryd.prog 39 #[.int .u8 c] w fun e w' => e = .returned (.bool (digitB c)) ∧ w = w' := by
  go_enter Tryd.func39, Tryd.ntmps39
  go_wp2
  all_goals go_ret
  · exact ⟨ret_bool (by simp [digitB]; omega), rfl⟩
  · exact ⟨ret_bool (by simp [digitB]; omega), rfl⟩

theorem word_calls (c : Int) (w : World) : Calls Tryd.prog 38 #[.int .u8 c] w fun e w' => e = .returned (.bool (wordB c)) ∧ w = w' := by
  go_enter Tryd.func38, Tryd.ntmps38
  go_wp2_with (first | (go_at_call 36; refine (letter_calls _ _).mono ?_; rintro e w' ⟨rfl, rfl⟩) | (go_at_call 39; refine (digit_calls _ _).mono ?_; rintro e w' ⟨rfl, rfl⟩))
  all_goals go_ret
  all_goals exact ⟨ret_bool (by simp [wordB, *]), rfl⟩

theorem text_calls (c : Int) (w : World) : Calls Tryd.prog 41 #[.int .u8 c] w fun e w' => e = .returned (.bool (textB c)) ∧ w = w' := by
  go_enter Tryd.func41, Tryd.ntmps41
  go_wp2
  all_goals go_ret
  all_goals refine ⟨ret_bool ?_, rfl⟩
  all_goals first | (simp [textB, *]; done) | (simp only [textB]; rw [decide_eq_false (show ¬ c ≤ 126 by omega)]; simp) | (simp only [textB]; rw [decide_eq_false (show ¬ 32 ≤ c by omega)]; simp)

/-- How many bytes at the beginning are of a class, from a place on. -/
def preN (p : Int → Bool) : List UInt8 → Nat
  | [] => 0
  | c :: l => if p c.toNat then preN p l + 1 else 0
theorem preN_le (p : Int → Bool) (l : List UInt8) : preN p l ≤ l.length := by
  induction l with
  | nil => simp [preN]
  | cons c l ih => simp only [preN]; split <;> simp <;> omega

theorem prefix_word (s : ByteArray) (hs : s.size ≤ maxLen) (w : World) : Calls Tryd.prog 37 #[.string s, .func (.func 38) #[] #[]] w fun e w' => e = .returned (.string (s.extract 0 (preN wordB s.data.toList))) ∧ w = w' := by
  unfold maxLen at hs
  go_enter Tryd.func37, Tryd.ntmps37
  go_wp2
  go_loop [5, 8] (fun _ i => ∃ k : Nat, k ≤ s.size ∧ i = .int .i64 k ∧ Hid (preN wordB s.data.toList = k + preN wordB (s.data.toList.drop k))) (fun _ i => s.size - (intOf i).toNat)
  case atStart => exact ⟨0, Nat.zero_le _, rfl, by simp [Hid]⟩
  case round =>
    obtain ⟨k, hk, rfl, H⟩ := hrel
    by_cases hlt : k < s.size
    · have hd : Hid (s.data.toList.drop k = s[k] :: s.data.toList.drop (k + 1)) := by
        have h : k < s.data.toList.length := by simpa using hlt
        exact List.drop_eq_getElem_cons h
      cases hp : wordB s[k].toNat
      · have H2 : Hid (preN wordB s.data.toList = k) := by
          have := H.out; rw [hd.out, preN, hp] at this; exact this
        go_wp2_with (go_at_call 38; refine (word_calls _ _).mono ?_; rintro e w' ⟨rfl, rfl⟩)
        go_ret
        exact ⟨ret_str (by rw [H2.out]), rfl⟩
      · have H2 : Hid (preN wordB s.data.toList = (k + 1) + preN wordB (s.data.toList.drop (k + 1))) := by
          have h := H.out; rw [hd.out, preN, hp] at h; simp only [if_true] at h; show _ = _; omega
        go_wp2_with (go_at_call 38; refine (word_calls _ _).mono ?_; rintro e w' ⟨rfl, rfl⟩)
        go_round
        case rel => exact ⟨k + 1, by omega, by go_num, H2⟩
        case measure => simp [intOf]; omega
    · have H2 : Hid (s.extract 0 (preN wordB s.data.toList) = s) := by
        have h := H.out
        have h0 : k = s.size := by omega
        rw [List.drop_of_length_le (by simp; omega)] at h
        have h1 : preN wordB s.data.toList = s.size := by simp only [preN] at h; omega
        show _ = _
        rw [h1]; exact ByteArray.extract_zero_size
      go_wp2
      go_ret
      exact ⟨ret_str H2.out.symm, rfl⟩

theorem prefix_digit (s : ByteArray) (hs : s.size ≤ maxLen) (w : World) : Calls Tryd.prog 37 #[.string s, .func (.func 39) #[] #[]] w fun e w' => e = .returned (.string (s.extract 0 (preN digitB s.data.toList))) ∧ w = w' := by
  unfold maxLen at hs
  go_enter Tryd.func37, Tryd.ntmps37
  go_wp2
  go_loop [5, 8] (fun _ i => ∃ k : Nat, k ≤ s.size ∧ i = .int .i64 k ∧ Hid (preN digitB s.data.toList = k + preN digitB (s.data.toList.drop k))) (fun _ i => s.size - (intOf i).toNat)
  case atStart => exact ⟨0, Nat.zero_le _, rfl, by simp [Hid]⟩
  case round =>
    obtain ⟨k, hk, rfl, H⟩ := hrel
    by_cases hlt : k < s.size
    · have hd : Hid (s.data.toList.drop k = s[k] :: s.data.toList.drop (k + 1)) := by
        have h : k < s.data.toList.length := by simpa using hlt
        exact List.drop_eq_getElem_cons h
      cases hp : digitB s[k].toNat
      · have H2 : Hid (preN digitB s.data.toList = k) := by
          have := H.out; rw [hd.out, preN, hp] at this; exact this
        go_wp2_with (go_at_call 39; refine (digit_calls _ _).mono ?_; rintro e w' ⟨rfl, rfl⟩)
        go_ret
        exact ⟨ret_str (by rw [H2.out]), rfl⟩
      · have H2 : Hid (preN digitB s.data.toList = (k + 1) + preN digitB (s.data.toList.drop (k + 1))) := by
          have h := H.out; rw [hd.out, preN, hp] at h; simp only [if_true] at h; show _ = _; omega
        go_wp2_with (go_at_call 39; refine (digit_calls _ _).mono ?_; rintro e w' ⟨rfl, rfl⟩)
        go_round
        case rel => exact ⟨k + 1, by omega, by go_num, H2⟩
        case measure => simp [intOf]; omega
    · have H2 : Hid (s.extract 0 (preN digitB s.data.toList) = s) := by
        have h := H.out
        have h0 : k = s.size := by omega
        rw [List.drop_of_length_le (by simp; omega)] at h
        have h1 : preN digitB s.data.toList = s.size := by simp only [preN] at h; omega
        show _ = _
        rw [h1]; exact ByteArray.extract_zero_size
      go_wp2
      go_ret
      exact ⟨ret_str H2.out.symm, rfl⟩

theorem prefix_text (s : ByteArray) (hs : s.size ≤ maxLen) (w : World) : Calls Tryd.prog 37 #[.string s, .func (.func 41) #[] #[]] w fun e w' => e = .returned (.string (s.extract 0 (preN textB s.data.toList))) ∧ w = w' := by
  unfold maxLen at hs
  go_enter Tryd.func37, Tryd.ntmps37
  go_wp2
  go_loop [5, 8] (fun _ i => ∃ k : Nat, k ≤ s.size ∧ i = .int .i64 k ∧ Hid (preN textB s.data.toList = k + preN textB (s.data.toList.drop k))) (fun _ i => s.size - (intOf i).toNat)
  case atStart => exact ⟨0, Nat.zero_le _, rfl, by simp [Hid]⟩
  case round =>
    obtain ⟨k, hk, rfl, H⟩ := hrel
    by_cases hlt : k < s.size
    · have hd : Hid (s.data.toList.drop k = s[k] :: s.data.toList.drop (k + 1)) := by
        have h : k < s.data.toList.length := by simpa using hlt
        exact List.drop_eq_getElem_cons h
      cases hp : textB s[k].toNat
      · have H2 : Hid (preN textB s.data.toList = k) := by
          have := H.out; rw [hd.out, preN, hp] at this; exact this
        go_wp2_with (go_at_call 41; refine (text_calls _ _).mono ?_; rintro e w' ⟨rfl, rfl⟩)
        go_ret
        exact ⟨ret_str (by rw [H2.out]), rfl⟩
      · have H2 : Hid (preN textB s.data.toList = (k + 1) + preN textB (s.data.toList.drop (k + 1))) := by
          have h := H.out; rw [hd.out, preN, hp] at h; simp only [if_true] at h; show _ = _; omega
        go_wp2_with (go_at_call 41; refine (text_calls _ _).mono ?_; rintro e w' ⟨rfl, rfl⟩)
        go_round
        case rel => exact ⟨k + 1, by omega, by go_num, H2⟩
        case measure => simp [intOf]; omega
    · have H2 : Hid (s.extract 0 (preN textB s.data.toList) = s) := by
        have h := H.out
        have h0 : k = s.size := by omega
        rw [List.drop_of_length_le (by simp; omega)] at h
        have h1 : preN textB s.data.toList = s.size := by simp only [preN] at h; omega
        show _ = _
        rw [h1]; exact ByteArray.extract_zero_size
      go_wp2
      go_ret
      exact ⟨ret_str H2.out.symm, rfl⟩

end Go.Proofs.YtjhinmdnabmdoaaDoor.Lex
