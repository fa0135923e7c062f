/- What is written for tokens has these tokens again, in plain Lean. -/
import Derived.Test.YtjhinmdnabmdoaaDoorLexV
import Derived.Lib.Join
set_option linter.unusedVariables false
namespace Go.Proofs.YtjhinmdnabmdoaaDoor.Lex

structure GoodR (t : RTok) : Prop where
  kind : t.1 = 0 ∨ t.1 = 1 ∨ t.1 = 2 ∨ t.1 = 3
  some : t.2.1 ≠ []
  two : t.1 = 2 → t.2.1 = 34 :: (textL 2 t.2.1 ++ [34])

theorem kind_cons (c : UInt8) (r : List UInt8) : kindL (c :: r) = if letterB c.toNat then 0 else if digitB c.toNat then 1 else if c == 34 then 2 else 3 := rfl
theorem len_cons (c : UInt8) (r : List UInt8) : lenL (c :: r) = if letterB c.toNat then preN wordB (c :: r) else if digitB c.toNat then numN (c :: r) else if c == 34 then strN (c :: r) else sigN (c :: r) := rfl
theorem toks_skip {l : List UInt8} {ts : List RTok} (h : Toks l ts) : skipL false l = l := by
  cases h with
  | nil => rfl
  | cons ho _ => have := skip_ok _ [] ho; rwa [List.append_nil] at this
theorem toks_nil {l : List UInt8} (h : Toks l []) : l = [] := by cases h; rfl
theorem kind_cases (l : List UInt8) : kindL l = 0 ∨ kindL l = 1 ∨ kindL l = 2 ∨ kindL l = 3 := by
  cases l with
  | nil => right; right; right; rfl
  | cons c r =>
    rw [kind_cons]
    split
    · left; rfl
    · split
      · right; left; rfl
      · split
        · right; right; left; rfl
        · right; right; right; rfl
theorem two_head (l : List UInt8) (h : kindL l = 2) : ∃ r, l = 34 :: r ∧ lenL l = strN l := by
  cases l with
  | nil => exact absurd h (by decide)
  | cons c r =>
    rw [kind_cons] at h
    split at h
    · cases h
    · split at h
      · cases h
      · split at h
        · rename_i h1 h2 h3
          refine ⟨r, by rw [eq_of_beq h3], ?_⟩
          rw [len_cons, if_neg h1, if_neg h2, if_pos h3]
        · cases h
theorem good_tok (l : List UInt8) (h : okL l = true) : GoodR (tokL l) := by
  have h0 := ok_len h
  have hl := lenL_le l
  have hr : l.take (lenL l) ≠ [] := by
    intro he
    have := congrArg List.length he
    rw [List.length_take] at this
    simp only [List.length_nil] at this
    omega
  refine ⟨kind_cases l, hr, ?_⟩
  intro h2
  obtain ⟨r, hlr, hn⟩ := two_head l h2
  show l.take (lenL l) = 34 :: (textL 2 (l.take (lenL l)) ++ [34])
  rw [hn] at h0 ⊢
  subst hlr
  have e : strN (34 :: r) = match r.drop (preN textB r) with
    | 34 :: _ => preN textB r + 2
    | _ => 0 := rfl
  rw [e] at h0 ⊢
  split at h0
  · rename_i q hq
    have hsplit : r = r.take (preN textB r) ++ 34 :: q := by rw [← hq, List.take_append_drop]
    have htk : (34 :: r).take (preN textB r + 2) = 34 :: (r.take (preN textB r) ++ [34]) := by
      rw [List.take_succ_cons]
      congr 1
      have hlen : (r.take (preN textB r)).length = preN textB r := take_len textB r
      generalize preN textB r = m at hsplit hlen
      generalize r.take m = a at hsplit hlen
      rw [hsplit, List.take_append, hlen, List.take_of_length_le (by omega), show m + 1 - m = 1 by omega]
      rfl
    rw [htk]; unfold textL; rw [if_pos rfl]; simp
  · exact absurd rfl h0
theorem toks_good {l : List UInt8} {ts : List RTok} (h : Toks l ts) : ∀ t ∈ ts, GoodR t := by
  induction h with
  | nil => intro t ht; cases ht
  | cons ho _ ih =>
    intro t ht
    rcases List.mem_cons.1 ht with rfl | ht
    · exact good_tok _ ho
    · exact ih t ht

def rawsJ (ts : List RTok) : List UInt8 := Lib.join (ts.map (·.2.1)) [32]
theorem rawsJ_cons (t : RTok) (u : RTok) (ts : List RTok) : rawsJ (t :: u :: ts) = t.2.1 ++ 32 :: rawsJ (u :: ts) := by
  unfold rawsJ
  simp only [List.map_cons, Lib.join_cons]
  simp [Lib.joinTail]
theorem toks_join {l : List UInt8} {ts : List RTok} (h : Toks l ts) :
    (∃ ts', Toks (rawsJ ts) ts' ∧ ts'.map (fun t => (t.1, t.2.1)) = ts.map fun t => (t.1, t.2.1)) ∧ (rawsJ ts).length ≤ 2 * l.length := by
  induction h with
  | nil => exact ⟨⟨[], .nil, rfl⟩, by simp [rawsJ, Lib.join_nil]⟩
  | @cons l ts ho ht ih =>
    obtain ⟨⟨us, hu, hm⟩, hlen⟩ := ih
    have h0 := ok_len ho
    have hl := lenL_le l
    have hsk := skip_length false (l.drop (lenL l))
    rw [List.length_drop] at hsk
    have hraw : (l.take (lenL l)).length = lenL l := by rw [List.length_take]; omega
    cases ts with
    | nil =>
      have hj : rawsJ [tokL l] = l.take (lenL l) := by unfold rawsJ; exact Lib.join_one _ _
      obtain ⟨t1, t2, t3⟩ := tok_same l [] ho (by intro c r hc; cases hc)
      rw [List.append_nil] at t1 t2 t3
      rw [hj]
      refine ⟨⟨[tokL (l.take (lenL l))], .cons t1 ?_, ?_⟩, by omega⟩
      · rw [t2, List.drop_of_length_le (by omega)]; exact .nil
      · show [(kindL (l.take (lenL l)), (l.take (lenL l)).take (lenL (l.take (lenL l))))] = [(kindL l, l.take (lenL l))]
        rw [t3, t2, List.take_of_length_le (by omega)]
    | cons u ts =>
      rw [rawsJ_cons]
      show (∃ ts', Toks (l.take (lenL l) ++ 32 :: rawsJ (u :: ts)) ts' ∧ _) ∧ (l.take (lenL l) ++ 32 :: rawsJ (u :: ts)).length ≤ _
      obtain ⟨t1, t2, t3⟩ := tok_same l (32 :: rawsJ (u :: ts)) ho (by intro c r hc; injection hc with hc1 hc2; subst hc1; left; rfl)
      have hsr : skipL false (32 :: rawsJ (u :: ts)) = rawsJ (u :: ts) := by
        have hh := toks_skip hu
        show (if blankB 32 then skipL false (rawsJ (u :: ts)) else _) = _
        rw [if_pos (by decide), hh]
      refine ⟨⟨tokL (l.take (lenL l) ++ 32 :: rawsJ (u :: ts)) :: us, .cons t1 ?_, ?_⟩, ?_⟩
      · rw [t2, List.drop_append_of_le_length (by omega), List.drop_of_length_le (by omega), List.nil_append, hsr]; exact hu
      · rw [List.map_cons, List.map_cons, hm]
        congr 1
        show (kindL _, List.take _ _) = (kindL l, l.take (lenL l))
        rw [t3, t2, List.take_append_of_le_length (by omega), List.take_of_length_le (by omega)]
      · rw [List.length_append, List.length_cons]; omega
end Go.Proofs.YtjhinmdnabmdoaaDoor.Lex
