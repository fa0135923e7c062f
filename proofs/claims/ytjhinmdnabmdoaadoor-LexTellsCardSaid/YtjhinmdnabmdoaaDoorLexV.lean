/- Where a source fails, and what is before and behind it, in plain Lean. -/
import Derived.Test.YtjhinmdnabmdoaaDoorLexU
set_option linter.unusedVariables false
namespace Go.Proofs.YtjhinmdnabmdoaaDoor.Lex

theorem preN_nl (p : Int → Bool) (hp : p 10 = false) (l x : List UInt8) : preN p (l ++ 10 :: x) = preN p l := by
  induction l with
  | nil => simp [preN, hp]
  | cons c l ih => simp only [List.cons_append, preN, ih]
theorem drop_nl (p : Int → Bool) (l x : List UInt8) : (l ++ 10 :: x).drop (preN p l) = l.drop (preN p l) ++ 10 :: x := by
  rw [List.drop_append_of_le_length (preN_le p l)]
theorem num_nl (l x : List UInt8) : numN (l ++ 10 :: x) = numN l := by
  unfold numN
  rw [preN_nl digitB (by decide), drop_nl]
  rcases hd : l.drop (preN digitB l) with _ | ⟨c, r⟩
  · rfl
  · rw [List.cons_append]
    by_cases hc : c = 46
    · subst hc; simp only [preN_nl digitB (by decide)]
    · split
      · rename_i r' he; injection he with h1 h2; exact absurd h1 hc
      · split
        · rename_i r' he; injection he with h1 h2; exact absurd h1 hc
        · rfl
theorem str_nl (c : UInt8) (l x : List UInt8) : strN (c :: l ++ 10 :: x) = strN (c :: l) := by
  rw [List.cons_append]
  have e : ∀ r : List UInt8, strN (c :: r) = match r.drop (preN textB r) with
    | 34 :: _ => preN textB r + 2
    | _ => 0 := fun _ => rfl
  rw [e, e, preN_nl textB (by decide), drop_nl]
  rcases hd : l.drop (preN textB l) with _ | ⟨d, r⟩
  · rfl
  · rw [List.cons_append]
    by_cases hc : d = 34
    · subst hc; rfl
    · split
      · rename_i r' he; injection he with h1 h2; exact absurd h1 hc
      · split
        · rename_i r' he; injection he with h1 h2; exact absurd h1 hc
        · rfl
theorem sig_nl (c : UInt8) (l x : List UInt8) : sigN (c :: l ++ 10 :: x) = sigN (c :: l) := by
  rw [List.cons_append]
  unfold sigN
  cases l with
  | nil => rfl
  | cons d r => rfl
theorem len_nl (l x : List UInt8) (h : l ≠ []) : lenL (l ++ 10 :: x) = lenL l ∧ kindL (l ++ 10 :: x) = kindL l := by
  cases l with
  | nil => exact absurd rfl h
  | cons c l =>
    have h1 := preN_nl wordB (by decide) (c :: l) x
    have h2 := num_nl (c :: l) x
    have h3 := str_nl c l x
    have h4 := sig_nl c l x
    rw [List.cons_append] at *
    constructor
    · unfold lenL; simp only [h1, h2, h3, h4]
    · rfl
theorem ok_nl (l x : List UInt8) (h : l ≠ []) : okL (l ++ 10 :: x) = okL l := by
  unfold okL; rw [(len_nl l x h).1, (len_nl l x h).2]

theorem dot_not {v : List UInt8} {ts : List RTok} {c : UInt8} {r : List UInt8} (h : Toks (skipL false v) ts) (hv : v = c :: r) (hb : blankB c = false) (h35 : c ≠ 35) : c ≠ 46 := by
  subst hv
  rw [skip_head c r hb h35] at h
  cases h with
  | cons ho ht => exact (head_ok c r ho).2.2

/-- Where it fails: what is before has tokens, what begins there fails at once, and what follows a line feed behind it does not matter. -/
theorem fails_split : ∀ (n : Nat) (l : List UInt8) (r : Nat), l.length ≤ n → Fails (skipL false l) r →
    ∃ u v, l = u ++ v ∧ v.length = r ∧ v ≠ [] ∧ okL v = false ∧ skipL false v = v ∧ (∃ ts, Toks (skipL false u) ts) ∧ (∀ x, Fails (skipL false (l ++ 10 :: x)) (r + 1 + x.length)) ∧ (∀ c q, u = c :: q → c = 35 ∨ blankB c = true ∨ c ≠ 46) := by
  intro n
  induction n with
  | zero =>
    intro l r hl h
    obtain rfl : l = [] := List.eq_nil_of_length_eq_zero (by omega)
    cases h with
    | here h1 h2 => exact absurd rfl h1
    | later ho _ => simp [skipL] at ho; exact absurd ho (by decide)
  | succ n ih =>
    intro l r hl h
    obtain ⟨w, b', hw, hst, hb⟩ := skip_split l false
    generalize hl1 : skipL false l = l1 at *
    have hne : l1 ≠ [] := by
      rintro rfl
      cases h with
      | here h1 h2 => exact h1 rfl
      | later ho _ => exact absurd ho (by decide)
    obtain rfl := hb hne
    obtain ⟨c, q, hc⟩ : ∃ c q, l1 = c :: q := by cases l1 with | nil => exact absurd rfl hne | cons c q => exact ⟨c, q, rfl⟩
    obtain ⟨hbl, h35⟩ := skip_head_of l false c q (by rw [hl1, hc])
    have hsk : ∀ m, skipL false (l1 ++ m) = l1 ++ m := by intro m; rw [hc, List.cons_append]; exact skip_head c _ hbl h35
    have hskl : ∀ m, skipL false (l ++ m) = l1 ++ m := by intro m; rw [hw, List.append_assoc, skip_app w false false _ hst]; exact hsk m
    have hskl1 : skipL false l1 = l1 := by have := hsk []; simpa using this
    cases h with
    | here h1 h2 =>
      refine ⟨w, l1, hw, rfl, hne, h2, hskl1, ⟨[], ?_⟩, fun x => ?_, ?_⟩
      · rw [skip_all w false false hst]; exact .nil
      · rw [hskl]
        have h3 : okL (l1 ++ 10 :: x) = false := by rw [ok_nl l1 x hne]; exact h2
        have h4 := Fails.here (l := l1 ++ 10 :: x) (by simp) h3
        rwa [show (l1 ++ 10 :: x).length = l1.length + 1 + x.length by simp; omega] at h4
      · intro d q' hd
        rw [hd] at hst
        unfold stL at hst
        split at hst
        · right; left; assumption
        · split at hst
          · rename_i h5; left; simpa using h5
          · cases hst
    | later ho hf =>
      have hll := lenL_le l1
      have hl0 := ok_len ho
      have hlen : l1.length ≤ l.length := by rw [hw]; simp
      obtain ⟨u', v', hu, hv, hvn, hov, hsv, ⟨ts, hts⟩, hx, hfirst⟩ := ih (l1.drop (lenL l1)) r (by simp; omega) hf
      have hbrk : Brk (l1.drop (lenL l1)) u' := by
        intro d q' hd
        by_cases hbd : blankB d = true
        · exact Or.inl hbd
        · right
          refine ⟨?_, q' ++ v', by rw [hu, hd]; rfl⟩
          rcases hfirst d q' hd with h5 | h5 | h5
          · subst h5; decide
          · exact absurd h5 hbd
          · exact h5
      obtain ⟨t1, t2, t3⟩ := tok_same l1 u' ho hbrk
      have hl1e : l1 = l1.take (lenL l1) ++ (u' ++ v') := by rw [← hu, List.take_append_drop]
      refine ⟨w ++ (l1.take (lenL l1) ++ u'), v', ?_, hv, hvn, hov, hsv, ⟨tokL (l1.take (lenL l1) ++ u') :: ts, ?_⟩, fun x => ?_, ?_⟩
      · rw [hw]; exact (congrArg (w ++ ·) hl1e).trans (by simp)
      · have hso := skip_ok (l1.take (lenL l1) ++ u') [] t1
        rw [List.append_nil] at hso
        rw [skip_app w false false _ hst, hso]
        refine .cons t1 ?_
        rw [t2, List.drop_append_of_le_length (by simp; omega), List.drop_of_length_le (by simp; omega), List.nil_append]
        exact hts
      · rw [hskl]
        have h3 : okL (l1 ++ 10 :: x) = true := by rw [ok_nl l1 x hne]; exact ho
        refine .later h3 ?_
        rw [(len_nl l1 x hne).1, List.drop_append_of_le_length hll]
        exact hx x
      · intro d q' hd
        cases w with
        | nil =>
          rw [List.nil_append] at hd
          have : l1 = d :: (q' ++ v') := by rw [hl1e, ← List.append_assoc, hd]; rfl
          rw [this] at ho
          right; right; exact (head_ok d _ ho).2.2
        | cons e w' =>
          rw [List.cons_append] at hd
          injection hd with hd1 hd2
          subst hd1
          unfold stL at hst
          split at hst
          · right; left; assumption
          · split at hst
            · rename_i h5; left; simpa using h5
            · cases hst
end Go.Proofs.YtjhinmdnabmdoaaDoor.Lex
