/- What the reference of layer 13 computes, in plain Lean: Scan. -/
import Derived.Test.YtjhinmdnabmdoaaDoorPLexx4
import Derived.Test.YtjhinmdnabmdoaaDoorPureOut
set_option linter.unusedVariables false
namespace Go.Proofs.YtjhinmdnabmdoaaDoor.Pure
open Go.RowKit Go.Proofs.YtjhinmdnabmdoaaDoor.PLex Go.Proofs.YtjhinmdnabmdoaaDoorW.PrintWords Go.Proofs.YtjhinmdnabmdoaaDoorW.PrintLast
open Lex (Tok RTok Toks Fails scanV mkTok endTok skipL okL lenL kindL textL tokL mostOf preN wordB digitB textB letterB blankB)
open PureO (outT outT_len outT_get outT_end bt_drop drop_end)

theorem ref_letter (c : UInt8) : bourneref13_letter.f (c.toNat : Int) = some (letterB c.toNat) := by
  have : ∀ n : Nat, n < 256 → bourneref13_letter.f (n : Int) = some (letterB (n : Int)) := by decide +kernel
  exact this c.toNat c.toNat_lt
theorem ref_digit (c : UInt8) : bourneref13_digit.f (c.toNat : Int) = some (digitB c.toNat) := by
  have : ∀ n : Nat, n < 256 → bourneref13_digit.f (n : Int) = some (digitB (n : Int)) := by decide +kernel
  exact this c.toNat c.toNat_lt
theorem ref_blank (c : UInt8) : bourneref13_Blank.f (c.toNat : Int) = some (blankB c) := by
  have : ∀ n : Nat, n < 256 → bourneref13_Blank.f (n : Int) = some (blankB (UInt8.ofNat n)) := by decide +kernel
  have h := this c.toNat c.toNat_lt
  rwa [UInt8.ofNat_toNat] at h
theorem c_eq (c : UInt8) (n : UInt8) : ((c.toNat : Int) = (n.toNat : Int)) ↔ c = n := by
  constructor
  · intro h; apply UInt8.toNat_inj.1; omega
  · rintro rfl; rfl
theorem at_cases (s : ByteArray) (i : Nat) (hi : i ≤ s.size) : (i = s.size ∧ s.data.toList.drop i = []) ∨ ∃ c r, i < s.size ∧ s.data.toList.drop i = c :: r ∧ bt s (i : Int) = (c.toNat : Int) ∧ s.data.toList.drop (i + 1) = r ∧ r.length + 1 = s.size - i := by
  rcases hd : s.data.toList.drop i with _ | ⟨c, r⟩
  · left
    have := congrArg List.length hd
    rw [List.length_drop] at this
    have h2 : s.data.toList.length = s.size := rfl
    simp only [List.length_nil] at this
    exact ⟨by omega, rfl⟩
  · right
    obtain ⟨h1, h2, h3⟩ := bt_drop s i c r hd
    have := congrArg List.length hd
    rw [List.length_drop, List.length_cons] at this
    have h4 : s.data.toList.length = s.size := rfl
    exact ⟨c, r, h2, rfl, h1, h3, by omega⟩
theorem wr (i : Nat) (h : i < 1000000) : wrap64 ((i : Int) + 1) = ((i + 1 : Nat) : Int) := by unfold wrap64; omega
theorem wr2 (i n : Nat) (h : i < 1000000) (h2 : n < 1000000) : wrap64 ((i : Int) + (n : Int)) = ((i + n : Nat) : Int) := by unfold wrap64; omega

theorem ref_skip (s : ByteArray) (hs : s.size ≤ 70000) : ∀ (d i : Nat), i + d = s.size → ∀ k, 4 * d + 4 ≤ k →
    bourneref13_skip.l0 k s (i : Int) = some ((s.size - (skipL false (s.data.toList.drop i)).length : Nat) : Int) ∧
    bourneref13_skip.l1 k s (i : Int) = some ((s.size - (skipL true (s.data.toList.drop i)).length : Nat) : Int)
  | 0, i, h, k, hk => by
    have hd : s.data.toList.drop i = [] := drop_end s i (by omega)
    have h0 : ∀ k, 2 ≤ k → bourneref13_skip.l0 k s (i : Int) = some ((s.size - (skipL false (s.data.toList.drop i)).length : Nat) : Int) := by
      intro k hk
      obtain ⟨k, rfl⟩ : ∃ j, k = j + 1 + 1 := ⟨k - 2, by omega⟩
      rw [bourneref13_skip.l0, if_neg (by omega), bourneref13_skip.j1, if_neg (by decide), hd]
      show some ((i : Nat) : Int) = some ((s.size - 0 : Nat) : Int)
      rw [show s.size - 0 = i by omega]
    refine ⟨h0 k (by omega), ?_⟩
    obtain ⟨k, rfl⟩ : ∃ j, k = j + 1 := ⟨k - 1, by omega⟩
    rw [bourneref13_skip.l1, if_neg (by omega), h0 k (by omega), hd]
    rfl
  | d + 1, i, h, k, hk => by
    have ih := ref_skip s hs d (i + 1) (by omega)
    rcases at_cases s i (by omega) with ⟨h1, _⟩ | ⟨c, r, hlt, hd, hb, hr, hrl⟩
    · omega
    rw [hr] at ih
    have hw := fun _ : Unit => wr i (by omega)
    have h10 := c_eq c 10
    have h35 := c_eq c 35
    have e10 : (((10 : UInt8).toNat : Nat) : Int) = 10 := rfl
    have e35 : (((35 : UInt8).toNat : Nat) : Int) = 35 := rfl
    rw [e10] at h10
    rw [e35] at h35
    rw [hd]
    have hl1 : ∀ k, 4 * d + 5 ≤ k → c ≠ 10 → bourneref13_skip.l1 k s (i : Int) = some ((s.size - (skipL true r).length : Nat) : Int) := by
      intro k hk h1
      obtain ⟨k, rfl⟩ : ∃ j, k = j + 1 := ⟨k - 1, by omega⟩
      rw [bourneref13_skip.l1, if_pos (by omega), if_pos (by omega), hb, if_neg (fun h => h1 (h10.1 h)), hw ()]
      exact (ih k (by omega)).2
    have hl0 : ∀ k, 4 * d + 7 ≤ k → bourneref13_skip.l0 k s (i : Int) = some ((s.size - (skipL false (c :: r)).length : Nat) : Int) := by
      intro k hk
      obtain ⟨k, rfl⟩ : ∃ j, k = j + 1 + 1 := ⟨k - 2, by omega⟩
      rw [bourneref13_skip.l0, if_pos (by omega), if_pos (by omega), hb, ref_blank, Option.bind_some]
      have e : skipL false (c :: r) = if blankB c then skipL false r else if c == 35 then skipL true r else c :: r := rfl
      rw [e]
      by_cases hbl : blankB c = true
      · have hn35 : c ≠ 35 := by rintro rfl; exact absurd hbl (by decide)
        rw [if_pos hbl, if_pos hbl, bourneref13_skip.j1, if_pos rfl, if_pos (by omega), if_pos (by omega), hb, if_neg (fun h => hn35 (h35.1 h)), hw ()]
        exact (ih k (by omega)).1
      · rw [if_neg hbl, if_neg hbl]
        by_cases h3 : c = 35
        · subst h3
          rw [show ((((35 : UInt8).toNat : Nat) : Int) == 35) = true from rfl, bourneref13_skip.j1, if_pos rfl, if_pos (by omega), if_pos (by omega), hb, if_pos (by rfl), if_pos (by rfl)]
          exact hl1 k (by omega) (by decide)
        · have : (((c.toNat : Int)) == 35) = false := beq_eq_false_iff_ne.mpr fun h => h3 (h35.1 h)
          rw [this, bourneref13_skip.j1, if_neg (by decide), if_neg (by simpa using h3)]
          rw [List.length_cons, show s.size - (r.length + 1) = i by omega]
    refine ⟨hl0 k (by omega), ?_⟩
    have e : skipL true (c :: r) = if c == 10 then skipL false r else skipL true r := rfl
    by_cases h1 : c = 10
    · subst h1
      obtain ⟨k, rfl⟩ : ∃ j, k = j + 1 := ⟨k - 1, by omega⟩
      rw [bourneref13_skip.l1, if_pos (by omega), if_pos (by omega), hb, if_pos (by rfl), hl0 k (by omega), e, if_pos (by rfl)]
      rfl
    · rw [e, if_neg (by simpa using h1)]
      exact hl1 k (by omega) h1
theorem ref_skip_f (s : ByteArray) (hs : s.size ≤ 70000) (i : Nat) (hi : i ≤ s.size) (k : Nat) (hk : 400000 ≤ k) : bourneref13_skip.f k s (i : Int) = some ((s.size - (skipL false (s.data.toList.drop i)).length : Nat) : Int) :=
  (ref_skip s hs (s.size - i) i (by omega) k (by omega)).1

theorem pre_cons (p : Int → Bool) (c : UInt8) (r : List UInt8) : preN p (c :: r) = if p c.toNat then preN p r + 1 else 0 := rfl
theorem ref_word (s : ByteArray) (hs : s.size ≤ 70000) (at_ : Nat) : ∀ (d n : Nat), at_ + n + d = s.size → ∀ k, d + 1 ≤ k → bourneref13_word.l0 k s (at_ : Int) (n : Int) = some ((n + preN wordB (s.data.toList.drop (at_ + n)) : Nat) : Int)
  | d, n, h, 0, hk => by omega
  | d, n, h, k + 1, hk => by
    have hw := fun _ : Unit => wr n (by omega)
    have hw2 := fun _ : Unit => wr2 at_ n (by omega) (by omega)
    rcases at_cases s (at_ + n) (by omega) with ⟨h1, hd⟩ | ⟨c, r, hlt, hd, hb, hr, hrl⟩
    · rw [bourneref13_word.l0, hw2 (), if_neg (by omega), hd]; rfl
    · obtain ⟨d, rfl⟩ : ∃ e, d = e + 1 := ⟨d - 1, by omega⟩
      have ih := ref_word s hs at_ d (n + 1) (by omega) k (by omega)
      rw [← Nat.add_assoc, hr] at ih
      have h95 := c_eq c 95
      have e95 : (((95 : UInt8).toNat : Nat) : Int) = 95 := rfl
      rw [e95] at h95
      rw [bourneref13_word.l0, hw2 (), if_pos (by omega), if_pos (by omega), hb, ref_letter, ref_digit, Option.bind_some, Option.bind_some, hd, pre_cons, hw (), ih]
      unfold wordB
      cases letterB c.toNat with
      | true => rw [if_pos rfl, Bool.true_or, Bool.true_or, if_pos rfl]; congr 2; omega
      | false =>
        rw [if_neg (by decide)]
        cases digitB c.toNat with
        | true => rw [if_pos rfl, Bool.false_or, Bool.true_or, if_pos rfl]; congr 2; omega
        | false =>
          rw [if_neg (by decide), Bool.false_or, Bool.false_or]
          by_cases h5 : c = 95
          · subst h5; rw [if_pos (by rfl), if_pos (by rfl)]; congr 2; omega
          · rw [if_neg (fun h => h5 (h95.1 h)), if_neg (by simpa using fun h => h5 (h95.1 h))]; rfl
theorem ref_digits (s : ByteArray) (hs : s.size ≤ 70000) (at_ : Nat) : ∀ (d n : Nat), at_ + n + d = s.size → ∀ k, d + 1 ≤ k → bourneref13_digits.l0 k s (at_ : Int) (n : Int) = some ((n + preN digitB (s.data.toList.drop (at_ + n)) : Nat) : Int)
  | d, n, h, 0, hk => by omega
  | d, n, h, k + 1, hk => by
    have hw := fun _ : Unit => wr n (by omega)
    have hw2 := fun _ : Unit => wr2 at_ n (by omega) (by omega)
    rcases at_cases s (at_ + n) (by omega) with ⟨h1, hd⟩ | ⟨c, r, hlt, hd, hb, hr, hrl⟩
    · rw [bourneref13_digits.l0, hw2 (), if_neg (by omega), hd]; rfl
    · obtain ⟨d, rfl⟩ : ∃ e, d = e + 1 := ⟨d - 1, by omega⟩
      have ih := ref_digits s hs at_ d (n + 1) (by omega) k (by omega)
      rw [← Nat.add_assoc, hr] at ih
      rw [bourneref13_digits.l0, hw2 (), if_pos (by omega), if_pos (by omega), hb, ref_digit, Option.bind_some, hd, pre_cons, hw (), ih]
      cases digitB c.toNat with
      | true => rw [if_pos rfl, if_pos rfl]; congr 2; omega
      | false => rw [if_neg (by decide), if_neg (by decide)]; rfl
theorem ref_digits_f (s : ByteArray) (hs : s.size ≤ 70000) (i : Nat) (hi : i ≤ s.size) (k : Nat) (hk : 400000 ≤ k) : bourneref13_digits.f k s (i : Int) = some ((preN digitB (s.data.toList.drop i) : Nat) : Int) := by
  have := ref_digits s hs i (s.size - i) 0 (by omega) k (by omega)
  rw [Nat.zero_add, Nat.add_zero] at this
  exact this
theorem ref_word_f (s : ByteArray) (hs : s.size ≤ 70000) (i : Nat) (hi : i ≤ s.size) (k : Nat) (hk : 400000 ≤ k) : bourneref13_word.f k s (i : Int) = some ((preN wordB (s.data.toList.drop i) : Nat) : Int) := by
  have := ref_word s hs i (s.size - i) 0 (by omega) k (by omega)
  rw [Nat.zero_add, Nat.add_zero] at this
  exact this
theorem num_at (l : List UInt8) : Lex.numN l = match l.drop (preN digitB l) with
  | 46 :: r => if preN digitB r ≠ 0 then preN digitB l + 1 + preN digitB r else preN digitB l
  | _ => preN digitB l := rfl
theorem ref_number_f (s : ByteArray) (hs : s.size ≤ 70000) (i : Nat) (hi : i ≤ s.size) (k : Nat) (hk : 400000 ≤ k) : bourneref13_number.f k s (i : Int) = some ((Lex.numN (s.data.toList.drop i) : Nat) : Int) := by
  have hp := Lex.preN_le digitB (s.data.toList.drop i)
  have hsz : s.data.toList.length = s.size := rfl
  rw [List.length_drop, hsz] at hp
  generalize hm : preN digitB (s.data.toList.drop i) = m at hp
  have hw := fun _ : Unit => wr2 i m (by omega) (by omega)
  have hw1 := fun _ : Unit => wr (i + m) (by omega)
  unfold bourneref13_number.f
  rw [ref_digits_f s hs i hi k hk, Option.bind_some, hm, hw (), num_at, hm, List.drop_drop]
  rcases at_cases s (i + m) (by omega) with ⟨h1, hd⟩ | ⟨c, r, hlt, hd, hb, hr, hrl⟩
  · rw [if_neg (by omega), hd]
  · have h46 := c_eq c 46
    have e46 : (((46 : UInt8).toNat : Nat) : Int) = 46 := rfl
    rw [e46] at h46
    rw [if_pos (by omega), if_pos (by omega), hb, hd, hw1 ()]
    by_cases h4 : c = 46
    · subst h4
      have hq := Lex.preN_le digitB r
      have hw3 := fun _ : Unit => wr m (by omega)
      have hw4 := fun _ : Unit => wr2 (m + 1) (preN digitB r) (by omega) (by omega)
      have hdd := ref_digits_f s hs (i + m + 1) (by omega) k hk
      rw [hr] at hdd
      rw [if_pos (by rfl), hdd, Option.bind_some, Option.bind_some, hw3 (), hw4 ()]
      show _ = some (((if preN digitB r ≠ 0 then m + 1 + preN digitB r else m : Nat)) : Int)
      by_cases h0 : preN digitB r = 0
      · rw [if_neg (by omega), if_neg (by omega)]
      · rw [if_pos (by omega), if_pos h0]
    · rw [if_neg (fun h => h4 (h46.1 h))]
      split
      · rename_i r' he; injection he with h1 h2; exact absurd h1 h4
      · rfl
end Go.Proofs.YtjhinmdnabmdoaaDoor.Pure
