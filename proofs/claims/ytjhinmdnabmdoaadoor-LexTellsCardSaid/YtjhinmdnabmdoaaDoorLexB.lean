/- Contracts of the library's functions that lex calls. -/
import Derived.Test.YtjhinmdnabmdoaaDoorLexA
set_option linter.unusedVariables false
set_option linter.unusedSimpArgs false
namespace Go.Proofs.YtjhinmdnabmdoaaDoor.Lex
open Go.RowKit

/-- Does s begin with t? -/
def hpB (s t : ByteArray) : Bool := decide (t.size ≤ s.size) && (s.extract 0 t.size).toList == t.toList
theorem hpB_no {s t : ByteArray} (h : ¬ t.size ≤ s.size) : hpB s t = false := by simp [hpB, h]
theorem hpB_yes {s t : ByteArray} (h : t.size ≤ s.size) : hpB s t = ((s.extract 0 t.size).toList == t.toList) := by simp [hpB, h]

theorem hasPrefix_lite (s t : ByteArray) (hs : s.size ≤ maxLen) (ht : t.size ≤ maxLen) (w : World) :
    Calls Tryd.prog 50 #[.string s, .string t] w fun e w' => e = .returned (.bool (hpB s t)) ∧ w = w' := by
  unfold maxLen at hs ht
  by_cases h : t.size ≤ s.size
  · have hd : decide (t.size ≤ s.size) = true := by simpa using h
    go_enter Tryd.func50, Tryd.ntmps50
    go_wp2
    go_ret
    exact ⟨ret_bool (hpB_yes h).symm, rfl⟩
  · have hd : decide (t.size ≤ s.size) = false := by simpa using h
    go_enter Tryd.func50, Tryd.ntmps50
    go_wp2
    go_ret
    exact ⟨ret_bool (hpB_no h).symm, rfl⟩

theorem hasPrefix_calls (s t : ByteArray) (hs : s.size ≤ maxLen) (ht : t.size ≤ maxLen) (w : World) :
    Calls Tryd.prog 34 #[.string s, .string t] w fun e w' => e = .returned (.bool (hpB s t)) ∧ w = w' := by
  have hs1 := Lib.hid hs
  have ht1 := Lib.hid ht
  unfold maxLen at hs ht
  go_enter Tryd.func34, Tryd.ntmps34
  go_wp2_with (go_at_call 50; refine (hasPrefix_lite _ _ hs1.out ht1.out _).mono ?_; rintro e w' ⟨rfl, rfl⟩)
  go_ret
  exact ⟨rfl, rfl⟩

/-- strings.CutPrefix -/
def cutS (s t : ByteArray) : ByteArray := if hpB s t = true then s.extract t.size s.size else s
theorem cutS_no {s t : ByteArray} (h : hpB s t = false) : cutS s t = s := by simp [cutS, h]
theorem cutS_yes {s t : ByteArray} (h : hpB s t = true) : cutS s t = s.extract t.size s.size := by simp [cutS, h]
theorem ret_pair {a a' : ByteArray} {b b' : Bool} (h : a = a') (hb : b = b') : Ending.returned (.tuple #[.string a, .bool b]) = .returned (.tuple #[.string a', .bool b']) := by rw [h, hb]

theorem cutPrefix_lite (s t : ByteArray) (hs : s.size ≤ maxLen) (ht : t.size ≤ maxLen) (w : World) :
    Calls Tryd.prog 52 #[.string s, .string t] w fun e w' => e = .returned (.tuple #[.string (cutS s t), .bool (hpB s t)]) ∧ w = w' := by
  have hs1 := Lib.hid hs
  have ht1 := Lib.hid ht
  unfold maxLen at hs ht
  cases h : hpB s t
  · have H2 := Lib.hid (cutS_no h)
    have H := Lib.hid h; clear h
    go_enter Tryd.func52, Tryd.ntmps52
    go_wp2_with (go_at_call 50; refine (hasPrefix_lite _ _ hs1.out ht1.out _).mono ?_; rw [H.out]; rintro e w' ⟨rfl, rfl⟩)
    go_ret2
    exact ⟨ret_pair H2.out.symm rfl, rfl⟩
  · have hle : t.size ≤ s.size := by
      unfold hpB at h; simp at h; exact h.1
    have H2 := Lib.hid (cutS_yes h)
    have H := Lib.hid h; clear h
    go_enter Tryd.func52, Tryd.ntmps52
    go_wp2_with (go_at_call 50; refine (hasPrefix_lite _ _ hs1.out ht1.out _).mono ?_; rw [H.out]; rintro e w' ⟨rfl, rfl⟩)
    go_ret2
    exact ⟨ret_pair H2.out.symm rfl, rfl⟩
theorem cutPrefix_calls (s t : ByteArray) (hs : s.size ≤ maxLen) (ht : t.size ≤ maxLen) (w : World) :
    Calls Tryd.prog 40 #[.string s, .string t] w fun e w' => e = .returned (.tuple #[.string (cutS s t), .bool (hpB s t)]) ∧ w = w' := by
  have hs1 := Lib.hid hs
  have ht1 := Lib.hid ht
  unfold maxLen at hs ht
  go_enter Tryd.func40, Tryd.ntmps40
  go_wp2_with (go_at_call 52; refine (cutPrefix_lite _ _ hs1.out ht1.out _).mono ?_; rintro e w' ⟨rfl, rfl⟩)
  go_ret2
  exact ⟨rfl, rfl⟩
end Go.Proofs.YtjhinmdnabmdoaaDoor.Lex
