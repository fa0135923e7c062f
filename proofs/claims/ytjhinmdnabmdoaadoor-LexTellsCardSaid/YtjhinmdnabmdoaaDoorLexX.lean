/- Gaps and trailing comments, in plain Lean. -/
import Derived.Test.YtjhinmdnabmdoaaDoorLexW
set_option linter.unusedVariables false
namespace Go.Proofs.YtjhinmdnabmdoaaDoor.Lex

/-- Is a comment open behind these bytes, quotes not being looked at? -/
def openL : Bool → List UInt8 → Bool
  | b, [] => b
  | b, c :: l => openL (c != 10 && (b || c == 35)) l
theorem openL_le : ∀ (l : List UInt8), openL false l = true → openL true l = true
  | [], _ => rfl
  | c :: l, h => by
    unfold openL at h ⊢
    cases hc : (c != 10 && (true || c == 35)) with
    | false =>
      have h1 : (c != 10 && (false || c == 35)) = false := by simp at hc ⊢; intro h2; exact absurd hc h2
      rw [h1] at h; exact h
    | true =>
      cases h1 : (c != 10 && (false || c == 35)) with
      | true => rw [h1] at h; exact h
      | false => rw [h1] at h; exact openL_le l h
theorem openL_app : ∀ (a l : List UInt8) (b : Bool), openL b (a ++ l) = openL (openL b a) l
  | [], _, _ => rfl
  | c :: a, l, b => openL_app a l _
theorem openL_st : ∀ (w : List UInt8) (b b' : Bool), stL b w = some b' → openL b w = b'
  | [], b, b', h => by cases b <;> simpa [stL, openL] using h
  | c :: w, false, b', h => by
    unfold stL at h
    unfold openL
    split at h
    · rename_i hb
      have h35 : (c == 35) = false := by
        unfold blankB at hb
        simp only [Bool.or_eq_true, beq_iff_eq] at hb
        rcases hb with ((rfl | rfl) | rfl) | rfl <;> rfl
      rw [h35]; simp only [Bool.or_false, Bool.and_false]
      exact openL_st w false b' h
    · split at h
      · rename_i h35
        obtain rfl := eq_of_beq h35
        exact openL_st w true b' h
      · cases h
  | c :: w, true, b', h => by
    unfold stL at h
    unfold openL
    split at h
    · rename_i h10
      obtain rfl := eq_of_beq h10
      exact openL_st w false b' h
    · rename_i h10
      have : (c != 10) = true := by simpa [bne] using h10
      rw [this]
      exact openL_st w true b' h
/-- What follows more bytes is open at least where it is open by itself. -/
theorem openL_more (a w : List UInt8) (b : Bool) (h : openL false (a ++ w) = false) (hw : stL false w = some b) : b = false := by
  have h1 := openL_st w false b hw
  rw [openL_app] at h
  cases ha : openL false a with
  | false => rw [ha] at h; rw [← h1, h]
  | true =>
    rw [ha] at h
    cases b with
    | false => rfl
    | true => exact absurd (openL_le w h1) (by rw [h]; decide)

theorem gap_blank (g : List UInt8) (h : ∀ c ∈ g, blankB c = true) : Gap g := by
  refine ⟨fun v => ?_, ?_⟩
  · induction g with
    | nil => rfl
    | cons c g ih =>
      show (if blankB c then skipL false (g ++ v) else _) = _
      rw [if_pos (h c List.mem_cons_self)]
      exact ih fun d hd => h d (List.mem_cons_of_mem _ hd)
  · intro c r hc
    subst hc
    exact h c List.mem_cons_self
theorem skip_comment (m v : List UInt8) (h : ∀ c ∈ m, c ≠ 10) : skipL true (m ++ 10 :: v) = skipL false v := by
  induction m with
  | nil => rfl
  | cons c m ih =>
    show (if c == 10 then skipL false (m ++ 10 :: v) else skipL true (m ++ 10 :: v)) = _
    rw [if_neg (by simpa using h c List.mem_cons_self)]
    exact ih fun d hd => h d (List.mem_cons_of_mem _ hd)
theorem gap_comment (m : List UInt8) (h : ∀ c ∈ m, c ≠ 10) : Gap (32 :: 35 :: (m ++ [10])) := by
  refine ⟨fun v => ?_, ?_⟩
  · show skipL true ((m ++ [10]) ++ v) = _
    rw [List.append_assoc]
    exact skip_comment m v h
  · intro c r hc
    injection hc with h1 h2
    subst h1
    rfl
theorem toks_left {l : List UInt8} {ts : List RTok} (h : Toks l ts) : ∀ t ∈ ts, t.2.2 ≤ l.length := by
  induction h with
  | nil => intro t ht; cases ht
  | @cons l ts ho _ ih =>
    have hs := skip_length false (l.drop (lenL l))
    rw [List.length_drop] at hs
    intro t ht
    rcases List.mem_cons.1 ht with rfl | ht
    · exact Nat.le_refl _
    · have := ih t ht; omega
theorem toks_raw {l : List UInt8} {ts : List RTok} (h : Toks l ts) : ∀ t ∈ ts, t.2.1.length ≤ t.2.2 := by
  induction h with
  | nil => intro t ht; cases ht
  | @cons l ts ho _ ih =>
    intro t ht
    rcases List.mem_cons.1 ht with rfl | ht
    · show (l.take (lenL l)).length ≤ l.length; rw [List.length_take]; omega
    · exact ih t ht
end Go.Proofs.YtjhinmdnabmdoaaDoor.Lex
