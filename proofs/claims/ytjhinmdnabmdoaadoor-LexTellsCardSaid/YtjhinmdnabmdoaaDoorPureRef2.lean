/- What the reference of layer 13 computes, in plain Lean: strings, signs, tokens, Scan. -/
import Derived.Test.YtjhinmdnabmdoaaDoorPureRef
set_option linter.unusedVariables false
namespace Go.Proofs.YtjhinmdnabmdoaaDoor.Pure
open Go.RowKit Go.Proofs.YtjhinmdnabmdoaaDoor.PLex Go.Proofs.YtjhinmdnabmdoaaDoorW.PrintWords Go.Proofs.YtjhinmdnabmdoaaDoorW.PrintLast
open Lex (Tok RTok Toks Fails scanV mkTok endTok skipL okL lenL kindL textL tokL mostOf preN wordB digitB textB letterB blankB strN sigN twoC oneC)
open PureO (outT outT_len outT_get outT_end bt_drop drop_end)

/-- What quoted returns, n bytes having been seen. -/
def quoV (n : Nat) (l : List UInt8) : Nat := match l.drop (preN textB l) with
  | 34 :: _ => if n + preN textB l ≤ 501 then n + preN textB l + 1 else 0
  | _ => 0
theorem quo_nil (n : Nat) : quoV n [] = 0 := rfl
theorem quo_cons (n : Nat) (c : UInt8) (r : List UInt8) : quoV n (c :: r) = if textB c.toNat then quoV (n + 1) r else if c = 34 then (if n ≤ 501 then n + 1 else 0) else 0 := by
  unfold quoV
  rw [pre_cons]
  by_cases h : textB c.toNat = true
  · rw [if_pos h, if_pos h, List.drop_succ_cons]
    rw [show n + (preN textB r + 1) = n + 1 + preN textB r by omega]
  · rw [if_neg h, if_neg h, List.drop_zero]
    by_cases h34 : c = 34
    · subst h34; rw [if_pos rfl]; rfl
    · rw [if_neg h34]
      split
      · rename_i q he; injection he with h1 h2; exact absurd h1 h34
      · rfl
theorem quo_big (l : List UInt8) : ∀ n, 501 < n → quoV n l = 0 := by
  induction l with
  | nil => intro n h; rfl
  | cons c r ih =>
    intro n h
    rw [quo_cons]
    split
    · exact ih (n + 1) (by omega)
    · split
      · rw [if_neg (by omega)]
      · rfl
theorem text_facts (c : UInt8) : (c = 34 → textB c.toNat = false) ∧ ((c.toNat : Int) < 32 → textB c.toNat = false) ∧ ((c.toNat : Int) > 126 → textB c.toNat = false) ∧ (c = 92 → textB c.toNat = false) ∧ (c ≠ 34 → ¬ (c.toNat : Int) < 32 → ¬ (c.toNat : Int) > 126 → c ≠ 92 → textB c.toNat = true) := by
  have e34 : (c = 34) ↔ ((c.toNat : Int) = 34) := (c_eq c 34).symm
  have e92 : (c = 92) ↔ ((c.toNat : Int) = 92) := (c_eq c 92).symm
  rw [e34, e92]
  unfold textB
  generalize (c.toNat : Int) = x at e34 e92 ⊢
  refine ⟨fun h => ?_, fun h => ?_, fun h => ?_, fun h => ?_, fun a b d e => ?_⟩
  · subst h; rfl
  · rw [decide_eq_false (by omega)]; rfl
  · rw [decide_eq_false (show ¬ x ≤ 126 by omega), Bool.and_false]; rfl
  · subst h; rfl
  · rw [decide_eq_true (show 32 ≤ x by omega), decide_eq_true (show x ≤ 126 by omega), bne_iff_ne.mpr (fun h => a (e34.2 h)), bne_iff_ne.mpr (fun h => e (e92.2 h))]; rfl
theorem str_cases (c : UInt8) (r : List UInt8) : (strN (c :: r) = preN textB r + 2 ∧ ∀ n, quoV n r = if n + preN textB r ≤ 501 then n + preN textB r + 1 else 0) ∨ (strN (c :: r) = 0 ∧ ∀ n, quoV n r = 0) := by
  have e : strN (c :: r) = match r.drop (preN textB r) with
    | 34 :: _ => preN textB r + 2
    | _ => 0 := rfl
  rw [e]
  unfold quoV
  rcases hd : r.drop (preN textB r) with _ | ⟨d, q⟩
  · right; exact ⟨rfl, fun _ => rfl⟩
  · by_cases h : d = 34
    · subst h; left; exact ⟨rfl, fun _ => rfl⟩
    · right
      constructor
      · split
        · rename_i q' he; injection he with h1 h2; exact absurd h1 h
        · rfl
      · intro n
        split
        · rename_i q' he; injection he with h1 h2; exact absurd h1 h
        · rfl
theorem ref_quoted (s : ByteArray) (hs : s.size ≤ 70000) (at_ : Nat) : ∀ (d n : Nat), at_ + n + d = s.size → ∀ k, 2 * d + 2 ≤ k → bourneref13_quoted.l0 k s (at_ : Int) (n : Int) = some ((quoV n (s.data.toList.drop (at_ + n)) : Nat) : Int) := by
  intro d
  induction d with
  | zero =>
    intro n h k hk
    obtain ⟨k, rfl⟩ : ∃ j, k = j + 1 + 1 := ⟨k - 2, by omega⟩
    have hw2 := fun _ : Unit => wr2 at_ n (by omega) (by omega)
    rw [bourneref13_quoted.l0, hw2 (), if_neg (by omega), bourneref13_quoted.j1, if_neg (by decide), drop_end s _ (by omega)]
    rfl
  | succ d ih0 =>
    intro n h k hk
    obtain ⟨k, rfl⟩ : ∃ j, k = j + 1 + 1 := ⟨k - 2, by omega⟩
    have hw := fun _ : Unit => wr n (by omega)
    have hw2 := fun _ : Unit => wr2 at_ n (by omega) (by omega)
    rcases at_cases s (at_ + n) (by omega) with ⟨h1, hd⟩ | ⟨c, r, hlt, hd, hb, hr, hrl⟩
    · omega
    have ih := ih0 (n + 1) (by omega) k (by omega)
    rw [← Nat.add_assoc, hr] at ih
    rw [bourneref13_quoted.l0, hw2 (), if_pos (by omega), hd]
    by_cases h5 : n ≤ 501
    · have hq := quo_cons n c r
      obtain ⟨t1, t2, t3, t4, t5⟩ := text_facts c
      have h34 := c_eq c 34
      have e34 : (((34 : UInt8).toNat : Nat) : Int) = 34 := rfl
      have h92 := c_eq c 92
      have e92 : (((92 : UInt8).toNat : Nat) : Int) = 92 := rfl
      rw [e34] at h34
      rw [e92] at h92
      rw [decide_eq_true (by omega), bourneref13_quoted.j1, hw2 (), if_pos rfl, if_pos (by omega), if_pos (by omega), hb, hw ()]
      by_cases q1 : c = 34
      · rw [if_pos (h34.2 q1), hq, if_neg (by rw [t1 q1]; decide), if_pos q1, if_pos h5]
      · rw [if_neg (fun h => q1 (h34.1 h))]
        by_cases q2 : (c.toNat : Int) < 32
        · rw [if_pos q2, hq, if_neg (by rw [t2 q2]; decide), if_neg q1]; rfl
        · rw [if_neg q2]
          by_cases q3 : (c.toNat : Int) > 126
          · rw [if_pos q3, hq, if_neg (by rw [t3 q3]; decide), if_neg q1]; rfl
          · rw [if_neg q3]
            by_cases q4 : c = 92
            · rw [if_pos (h92.2 q4), hq, if_neg (by rw [t4 q4]; decide), if_neg q1]; rfl
            · rw [if_neg (fun h => q4 (h92.1 h)), hq, if_pos (t5 q1 q2 q3 q4)]
              exact ih
    · rw [decide_eq_false (by omega), bourneref13_quoted.j1, if_neg (by decide), quo_big _ n (by omega)]
      rfl
/-- A string's length, or 0: none, or one that is too long. -/
theorem ref_quoted_f (s : ByteArray) (hs : s.size ≤ 70000) (i : Nat) (c : UInt8) (r : List UInt8) (hd : s.data.toList.drop i = c :: r) (hi : i < s.size) (k : Nat) (hk : 400000 ≤ k) : bourneref13_quoted.f k s (i : Int) = some (((if strN (c :: r) ≤ 502 then strN (c :: r) else 0 : Nat)) : Int) := by
  have h1 := ref_quoted s hs i (s.size - i - 1) 1 (by omega) k (by omega)
  obtain ⟨_, _, hr⟩ := bt_drop s i c r hd
  rw [hr] at h1
  refine h1.trans ?_
  congr 2
  rcases str_cases c r with ⟨h2, h3⟩ | ⟨h2, h3⟩
  · rw [h2, h3]
    by_cases h : preN textB r + 2 ≤ 502
    · rw [if_pos (by omega), if_pos h]; omega
    · rw [if_neg (by omega), if_neg h]
  · rw [h2, h3]; rfl
theorem ref_signed_f (s : ByteArray) (hs : s.size ≤ 70000) (i : Nat) (c : UInt8) (r : List UInt8) (hd : s.data.toList.drop i = c :: r) (hi : i < s.size) (k : Nat) (hk : 400000 ≤ k) : bourneref13_signed.f k s (i : Int) = some ((sigN (c :: r) : Nat) : Int) := by
  obtain ⟨k, rfl⟩ : ∃ j, k = j + 1 + 1 := ⟨k - 2, by omega⟩
  obtain ⟨hb, _, hr⟩ := bt_drop s i c r hd
  have hw := fun _ : Unit => wr i (by omega)
  have e : sigN (c :: r) = if twoC c && r.head? == some 61 then 2 else if oneC c then 1 else 0 := rfl
  have hone : ∀ k, bourneref13_signed.j1 (k + 1) s (i : Int) = some (((if oneC c then 1 else 0 : Nat)) : Int) := by
    intro k
    have key : ∀ n : Nat, n < 256 → (if (n : Int) = 123 then some 1 else if (n : Int) = 125 then some 1 else if (n : Int) = 40 then some 1 else if (n : Int) = 41 then some 1 else if (n : Int) = 44 then some 1 else if (n : Int) = 59 then some 1 else if (n : Int) = 58 then some 1 else if (n : Int) = 61 then some 1 else if (n : Int) = 43 then some 1 else if (n : Int) = 45 then some 1 else if (n : Int) = 42 then some 1 else if (n : Int) = 47 then some 1 else if (n : Int) = 37 then some 1 else if (n : Int) = 60 then some 1 else if (n : Int) = 62 then some (1 : Int) else some 0) = some (((if oneC (UInt8.ofNat n) then 1 else 0 : Nat)) : Int) := by decide +kernel
    have h := key c.toNat c.toNat_lt
    rw [UInt8.ofNat_toNat] at h
    rw [bourneref13_signed.j1, if_pos (by omega), if_pos (by omega), hb]
    exact h
  have htwo : ∀ b : Bool, bourneref13_signed.j0 (k + 1 + 1) s (i : Int) b = some (((if twoC c && b then 2 else if oneC c then 1 else 0 : Nat)) : Int) := by
    intro b
    cases b with
    | false => rw [bourneref13_signed.j0, if_neg (by decide), hone, Bool.and_false]; rfl
    | true =>
      have key : ∀ n : Nat, n < 256 → ∀ x : Option Int, (if (n : Int) = 60 then some 2 else if (n : Int) = 62 then some 2 else if (n : Int) = 61 then some 2 else if (n : Int) = 33 then some 2 else x) = if twoC (UInt8.ofNat n) then some 2 else x := by
        have k2 : ∀ n : Nat, n < 256 → twoC (UInt8.ofNat n) = (decide ((n : Int) = 60) || decide ((n : Int) = 62) || decide ((n : Int) = 61) || decide ((n : Int) = 33)) := by decide +kernel
        intro n hn x
        rw [k2 n hn]
        by_cases a1 : (n : Int) = 60
        · simp [a1]
        · by_cases a2 : (n : Int) = 62
          · simp [a2]
          · by_cases a3 : (n : Int) = 61
            · simp [a3]
            · by_cases a4 : (n : Int) = 33
              · simp [a4]
              · simp [a1, a2, a3, a4]
      have h := key c.toNat c.toNat_lt (bourneref13_signed.j1 (k + 1) s (i : Int))
      rw [UInt8.ofNat_toNat] at h
      rw [bourneref13_signed.j0, if_pos rfl, if_pos (by omega), if_pos (by omega), hb, h, hone, Bool.and_true]
      cases twoC c <;> rfl
  unfold bourneref13_signed.f
  rw [hw (), e]
  rcases at_cases s (i + 1) (by omega) with ⟨h1, hd2⟩ | ⟨c2, r2, hlt, hd2, hb2, hr2, hrl⟩
  · rw [hd2] at hr
    rw [if_neg (by omega), htwo, ← hr]
    rfl
  · rw [hd2] at hr
    have h61 := c_eq c2 61
    have e61 : (((61 : UInt8).toNat : Nat) : Int) = 61 := rfl
    rw [e61] at h61
    rw [if_pos (by omega), if_pos (by omega), hb2, htwo, ← hr]
    have : (((c2.toNat : Int)) == 61) = ((c2 :: r2).head? == some 61) := by
      by_cases h : c2 = 61
      · subst h; rfl
      · rw [beq_eq_false_iff_ne.mpr (fun h2 => h (h61.1 h2)), beq_eq_false_iff_ne.mpr (by simpa using h)]
    rw [this]

theorem num_ge (l : List UInt8) : preN digitB l ≤ Lex.numN l := by
  rw [num_at]
  split
  · rename_i r he
    by_cases h : preN digitB r ≠ 0
    · rw [if_pos h]; omega
    · rw [if_neg h]; exact Nat.le_refl _
  · exact Nat.le_refl _
theorem drop_pos (s : ByteArray) (i : Nat) (hi : i ≤ s.size) : s.data.toList.drop (s.size - (skipL false (s.data.toList.drop i)).length) = skipL false (s.data.toList.drop i) := by
  have hsl := Lex.skip_length false (s.data.toList.drop i)
  have hsz : s.data.toList.length = s.size := rfl
  have h1 := Lex.drop_skip (s.data.toList.drop i) false
  rw [List.length_drop, hsz] at hsl
  rw [List.length_drop, hsz, List.drop_drop] at h1
  generalize skipL false (s.data.toList.drop i) = v at h1 hsl
  rw [h1]
  congr 1
  have h2 := congrArg List.length h1
  rw [List.length_drop, hsz] at h2
  rw [List.length_drop, hsz]
  omega
/-- A token, or none. -/
theorem ref_token (s : ByteArray) (hs : s.size ≤ 70000) (i : Nat) (l : List UInt8) (hd : s.data.toList.drop i = l) (hl : l ≠ []) (k : Nat) (hk : 400000 ≤ k) :
    (okL l = true → bourneref13_token.f k s (i : Int) = some (kindL l, ⟨(textL (kindL l) (l.take (lenL l))).toArray⟩, (i : Int), ((lenL l : Nat) : Int))) ∧
    (okL l = false → ∃ a b e, bourneref13_token.f k s (i : Int) = some (a, b, e, 0)) := by
  obtain ⟨c, r, rfl⟩ : ∃ c r, l = c :: r := by cases l with | nil => exact absurd rfl hl | cons c r => exact ⟨c, r, rfl⟩
  obtain ⟨hb, hi, hr⟩ := bt_drop s i c r hd
  have hll := Lex.lenL_le (c :: r)
  have hlen : (c :: r).length = s.size - i := by
    rw [← hd, List.length_drop]; rfl
  have hcut : ∀ n, n ≤ (c :: r).length → s.extract ((i : Int)).toNat (((i + n : Nat) : Int)).toNat = ⟨((c :: r).take n).toArray⟩ := by
    intro n hn
    apply ByteArray.ext
    apply Array.toList_inj.1
    rw [Int.toNat_natCast, Int.toNat_natCast]
    have h1 : (s.extract i (i + n)).data.toList = (s.data.toList.drop i).take n := by
      simp [ByteArray.data_extract, List.take_drop]
    rw [h1, hd]
  have hok : okL (c :: r) = (decide (lenL (c :: r) ≠ 0) && decide ((lenL (c :: r) : Int) ≤ mostOf (kindL (c :: r)))) := rfl
  unfold bourneref13_token.f
  rw [if_pos (by omega), if_pos (by omega), hb, ref_letter, ref_digit, Option.bind_some, Option.bind_some]
  by_cases hlet : letterB c.toNat = true
  · have hk0 : kindL (c :: r) = 0 := by rw [Lex.kind_cons, if_pos hlet]
    have hn : lenL (c :: r) = preN wordB (c :: r) := by rw [Lex.len_cons, if_pos hlet]
    have hpos : preN wordB (c :: r) ≠ 0 := by
      rw [pre_cons, if_pos (by unfold wordB; rw [hlet]; rfl)]; omega
    rw [if_pos hlet, ref_word_f s hs i (by omega) k hk, hd, Option.bind_some]
    rw [hok, hk0, hn]
    rw [hn] at hll
    have hw2 := fun _ : Unit => wr2 i (preN wordB (c :: r)) (by omega) (by omega)
    have hm : mostOf 0 = 24 := rfl
    rw [hm]
    constructor
    · intro h
      simp only [Bool.and_eq_true, decide_eq_true_eq] at h
      rw [if_neg (by omega), hw2 (), if_pos (by omega), if_pos (by omega), hcut _ hll]
      unfold textL
      rw [if_neg (by decide)]
    · intro h
      have h24 : (preN wordB (c :: r) : Int) > 24 := by
        simp only [Bool.and_eq_false_iff, decide_eq_false_iff_not] at h
        omega
      rw [if_pos h24]
      exact ⟨_, _, _, rfl⟩
  · rw [if_neg hlet]
    by_cases hdig : digitB c.toNat = true
    · have hk0 : kindL (c :: r) = 1 := by rw [Lex.kind_cons, if_neg hlet, if_pos hdig]
      have hn : lenL (c :: r) = Lex.numN (c :: r) := by rw [Lex.len_cons, if_neg hlet, if_pos hdig]
      have hpos : Lex.numN (c :: r) ≠ 0 := by
        have h1 : preN digitB (c :: r) ≠ 0 := by rw [pre_cons, if_pos hdig]; omega
        have h2 := num_ge (c :: r)
        omega
      rw [if_pos hdig, ref_number_f s hs i (by omega) k hk, hd, Option.bind_some]
      rw [hok, hk0, hn]
      rw [hn] at hll
      have hw2 := fun _ : Unit => wr2 i (Lex.numN (c :: r)) (by omega) (by omega)
      have hm : mostOf 1 = 24 := rfl
      rw [hm]
      constructor
      · intro h
        simp only [Bool.and_eq_true, decide_eq_true_eq] at h
        rw [if_neg (by omega), hw2 (), if_pos (by omega), if_pos (by omega), hcut _ hll]
        unfold textL
        rw [if_neg (by decide)]
      · intro h
        have h24 : (Lex.numN (c :: r) : Int) > 24 := by
          simp only [Bool.and_eq_false_iff, decide_eq_false_iff_not] at h
          omega
        rw [if_pos h24]
        exact ⟨_, _, _, rfl⟩
    · rw [if_neg hdig]
      have h34 := c_eq c 34
      have e34 : (((34 : UInt8).toNat : Nat) : Int) = 34 := rfl
      rw [e34] at h34
      by_cases hq : c = 34
      · have hk0 : kindL (c :: r) = 2 := by rw [Lex.kind_cons, if_neg hlet, if_neg hdig, if_pos (by simpa using hq)]
        have hn : lenL (c :: r) = strN (c :: r) := by rw [Lex.len_cons, if_neg hlet, if_neg hdig, if_pos (by simpa using hq)]
        rw [if_pos (h34.2 hq), ref_quoted_f s hs i c r hd hi k hk, Option.bind_some]
        rw [hok, hk0, hn]
        rw [hn] at hll
        have hm : mostOf 2 = 502 := rfl
        rw [hm]
        constructor
        · intro h
          simp only [Bool.and_eq_true, decide_eq_true_eq] at h
          have h2 : 2 ≤ strN (c :: r) := by
            rcases str_cases c r with ⟨h2, _⟩ | ⟨h2, _⟩ <;> omega
          have hw1 := fun _ : Unit => wr i (by omega)
          have hw2 := fun _ : Unit => wr2 i (strN (c :: r)) (by omega) (by omega)
          have hw3 := fun _ : Unit => (show wrap64 (((i + strN (c :: r) : Nat) : Int) - 1) = ((i + 1 + (strN (c :: r) - 2) : Nat) : Int) by unfold wrap64; omega)
          have hcut2 : s.extract (((i + 1 : Nat) : Int)).toNat (((i + 1 + (strN (c :: r) - 2) : Nat) : Int)).toNat = ⟨(textL 2 ((c :: r).take (strN (c :: r)))).toArray⟩ := by
            apply ByteArray.ext
            apply Array.toList_inj.1
            rw [Int.toNat_natCast, Int.toNat_natCast]
            have h1 : (s.extract (i + 1) (i + 1 + (strN (c :: r) - 2))).data.toList = (s.data.toList.drop (i + 1)).take (strN (c :: r) - 2) := by
              simp [ByteArray.data_extract, List.take_drop]
            rw [h1, hr]
            unfold textL
            rw [if_pos rfl]
            obtain ⟨m, hm2⟩ : ∃ m, strN (c :: r) = m + 2 := ⟨strN (c :: r) - 2, by omega⟩
            rw [hm2] at hll ⊢
            rw [List.take_succ_cons, List.drop_succ_cons, List.drop_zero, Nat.add_sub_cancel]
            rw [List.dropLast_eq_take, List.take_take, List.length_take]
            simp only [List.length_cons] at hll
            congr 1
            omega
          have hle : strN (c :: r) ≤ 502 := by omega
          rw [if_pos hle, if_neg (by omega), hw1 (), hw2 (), hw3 (), if_pos (by omega), if_pos (by omega), if_pos (by omega), hcut2]
        · intro h
          have h0 : (if strN (c :: r) ≤ 502 then strN (c :: r) else 0) = 0 := by
            simp only [Bool.and_eq_false_iff, decide_eq_false_iff_not] at h
            split <;> omega
          rw [h0, if_pos (by rfl)]
          exact ⟨_, _, _, rfl⟩
      · have hk0 : kindL (c :: r) = 3 := by rw [Lex.kind_cons, if_neg hlet, if_neg hdig, if_neg (by simpa using hq)]
        have hn : lenL (c :: r) = sigN (c :: r) := by rw [Lex.len_cons, if_neg hlet, if_neg hdig, if_neg (by simpa using hq)]
        rw [if_neg (fun h => hq (h34.1 h)), ref_signed_f s hs i c r hd hi k hk, Option.bind_some]
        rw [hok, hk0, hn]
        rw [hn] at hll
        have hw2 := fun _ : Unit => wr2 i (sigN (c :: r)) (by omega) (by omega)
        have hm : mostOf 3 = 24 := rfl
        rw [hm, hw2 (), if_pos (by omega), if_pos (by omega), hcut _ hll]
        constructor
        · intro h
          unfold textL
          rw [if_neg (by decide)]
        · intro h
          have h2 : sigN (c :: r) ≤ 2 := by
            show (if twoC c && r.head? == some 61 then 2 else if oneC c then 1 else 0) ≤ 2
            split
            · omega
            · split <;> omega
          have h0 : sigN (c :: r) = 0 := by
            simp only [Bool.and_eq_false_iff, decide_eq_false_iff_not] at h
            omega
          rw [h0]
          exact ⟨_, _, _, rfl⟩

theorem ref_scan_toks (s : ByteArray) (hs : s.size ≤ 65536) : ∀ (ts : List RTok) (i : Nat) (acc : List S32), i ≤ s.size → Toks (s.data.toList.drop i) ts → acc.length + ts.length ≤ 100000 → ∀ k, 500000 + ts.length ≤ k →
    bourneref13_Scan.l0 k s acc (i : Int) = some (acc ++ outT s.size s ts, 0, 0)
  | [], i, acc, hi, h, ha, k, hk => by
    obtain ⟨k, rfl⟩ : ∃ j, k = j + 1 := ⟨k - 1, by omega⟩
    have hd := Lex.toks_nil h
    have : s.size ≤ i := by
      have := congrArg List.length hd
      rw [List.length_drop] at this
      have h2 : s.data.toList.length = s.size := rfl
      simp only [List.length_nil] at this
      omega
    simp only [List.length_nil] at ha
    rw [bourneref13_Scan.l0, if_neg (by omega), if_pos (by omega)]
    rfl
  | t :: ts, i, acc, hi, h, ha, k, hk => by
    simp only [List.length_cons] at ha hk
    obtain ⟨k, rfl⟩ : ∃ j, k = j + 1 := ⟨k - 1, by omega⟩
    generalize hl : s.data.toList.drop i = l at h
    cases h with
    | cons ho ht =>
      have hne := Lex.ok_ne ho
      have hpos := Lex.ok_len ho
      have hll := Lex.lenL_le l
      have hlen : l.length = s.size - i := by rw [← hl, List.length_drop]; rfl
      have htok := (ref_token s (by omega) i l hl hne k (by omega)).1 ho
      have hw := fun _ : Unit => wr2 i (lenL l) (by omega) (by omega)
      have hsk := ref_skip_f s (by omega) (i + lenL l) (by omega) k (by omega)
      rw [← List.drop_drop, hl] at hsk
      have hsl := Lex.skip_length false (l.drop (lenL l))
      have hdr : s.data.toList.drop (s.size - (skipL false (l.drop (lenL l))).length) = skipL false (l.drop (lenL l)) := by
        have h5 := drop_pos s (i + lenL l) (by omega)
        rw [← List.drop_drop, hl] at h5
        exact h5
      have ih := ref_scan_toks s hs ts (s.size - (skipL false (l.drop (lenL l))).length) (acc ++ [toTok (mkTok s.size (tokL l))]) (by omega) (by rw [hdr]; exact ht) (by simp; omega) k (by omega)
      rw [bourneref13_Scan.l0, if_pos (by omega), htok, Option.bind_some]
      dsimp only
      rw [if_neg (by omega), if_pos (by omega), hw (), hsk, Option.bind_some]
      have e : (⟨kindL l, ⟨(textL (kindL l) (l.take (lenL l))).toArray⟩, (i : Int)⟩ : S32) = toTok (mkTok s.size (tokL l)) := by
        show _ = (⟨kindL l, ⟨(textL (kindL l) (l.take (lenL l))).toArray⟩, ((s.size - l.length : Nat) : Int)⟩ : S32)
        rw [show s.size - l.length = i by omega]
      rw [e, ih, List.append_assoc]
      rfl
theorem ref_scan_fails (s : ByteArray) (hs : s.size ≤ 65536) : ∀ (d i : Nat) (acc : List S32) (r : Nat), i ≤ s.size → s.size - i ≤ d → Fails (s.data.toList.drop i) r → acc.length + d ≤ 100000 → ∀ k, 500000 + d ≤ k →
    bourneref13_Scan.l0 k s acc (i : Int) = some ([], 2, ((s.size - r : Nat) : Int)) := by
  intro d
  induction d with
  | zero =>
    intro i acc r hi hd h ha k hk
    obtain ⟨h1, h2⟩ := h.le
    rw [List.length_drop] at h1
    have h3 : s.data.toList.length = s.size := rfl
    omega
  | succ d ih0 =>
    intro i acc r hi hd h ha k hk
    obtain ⟨k, rfl⟩ : ∃ j, k = j + 1 := ⟨k - 1, by omega⟩
    generalize hl : s.data.toList.drop i = l at h
    have hlen : l.length = s.size - i := by rw [← hl, List.length_drop]; rfl
    cases h with
    | here hne ho =>
      have hlp : l.length ≠ 0 := fun h => hne (List.eq_nil_of_length_eq_zero h)
      obtain ⟨a, b, e, htok⟩ := (ref_token s (by omega) i l hl hne k (by omega)).2 ho
      rw [bourneref13_Scan.l0, if_pos (by omega), htok, Option.bind_some]
      dsimp only
      rw [if_pos rfl, show s.size - l.length = i by omega]
    | later ho hf =>
      have hne := Lex.ok_ne ho
      have hpos := Lex.ok_len ho
      have hll := Lex.lenL_le l
      have htok := (ref_token s (by omega) i l hl hne k (by omega)).1 ho
      have hw := fun _ : Unit => wr2 i (lenL l) (by omega) (by omega)
      have hsk := ref_skip_f s (by omega) (i + lenL l) (by omega) k (by omega)
      rw [← List.drop_drop, hl] at hsk
      have hsl := Lex.skip_length false (l.drop (lenL l))
      have hdr : s.data.toList.drop (s.size - (skipL false (l.drop (lenL l))).length) = skipL false (l.drop (lenL l)) := by
        have h5 := drop_pos s (i + lenL l) (by omega)
        rw [← List.drop_drop, hl] at h5
        exact h5
      rw [List.length_drop] at hsl
      have ih := ih0 (s.size - (skipL false (l.drop (lenL l))).length) (acc ++ [(⟨kindL l, ⟨(textL (kindL l) (l.take (lenL l))).toArray⟩, (i : Int)⟩ : S32)]) r (by omega) (by omega) (by rw [hdr]; exact hf) (by simp; omega) k (by omega)
      rw [bourneref13_Scan.l0, if_pos (by omega), htok, Option.bind_some]
      dsimp only
      rw [if_neg (by omega), if_pos (by omega), hw (), hsk, Option.bind_some]
      exact ih
/-- The reference's Scan returns what Scan returns. -/
theorem ref_scan_f (s : ByteArray) (hs : s.size ≤ 65536) (k : Nat) (hk : 700000 ≤ k) : bourneref13_Scan.f k s = lex_Scan.f s := by
  have hsk := ref_skip_f s (by omega) 0 (by omega) k (by omega)
  rw [List.drop_zero] at hsk
  have hsl := Lex.skip_length false s.data.toList
  have hsz : s.data.toList.length = s.size := rfl
  have hdr : s.data.toList.drop (s.size - (skipL false s.data.toList).length) = skipL false s.data.toList := (Lex.drop_skip s.data.toList false).symm
  unfold bourneref13_Scan.f
  rw [if_neg (by omega)]
  have hsk' : bourneref13_skip.f k s 0 = some ((s.size - (skipL false s.data.toList).length : Nat) : Int) := hsk
  rw [hsk', Option.bind_some]
  rcases Lex.scanV_cases s (by omega) with ⟨ts, ht, _⟩ | ⟨r, hf, _⟩
  · have hln := ht.len
    rw [scan_toks s hs ts ht, ref_scan_toks s hs ts _ [] (by omega) (by rw [hdr]; exact ht) (by simp; omega) k (by omega)]
    rfl
  · rw [scan_fails s hs r hf, ref_scan_fails s hs (s.size) _ [] r (by omega) (by omega) (by rw [hdr]; exact hf) (by simp; omega) k (by omega)]
end Go.Proofs.YtjhinmdnabmdoaaDoor.Pure
