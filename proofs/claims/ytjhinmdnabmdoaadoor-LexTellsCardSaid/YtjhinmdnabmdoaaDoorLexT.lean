/- Tokens as lists of bytes: what lex.Scan returns, said without offsets into a source. Plain: no program in sight but for Scan's own value. -/
import Derived.Test.YtjhinmdnabmdoaaDoorLexG
set_option linter.unusedVariables false
set_option linter.unusedSimpArgs false
namespace Go.Proofs.YtjhinmdnabmdoaaDoor.Lex

/-! ### one token -/
def numN (l : List UInt8) : Nat :=
  match l.drop (preN digitB l) with
  | 46 :: r => if preN digitB r ≠ 0 then preN digitB l + 1 + preN digitB r else preN digitB l
  | _ => preN digitB l
def strN : List UInt8 → Nat
  | [] => 0
  | _ :: r => match r.drop (preN textB r) with
    | 34 :: _ => preN textB r + 2
    | _ => 0
def twoC (c : UInt8) : Bool := c == 60 || c == 62 || c == 61 || c == 33
def oneC (c : UInt8) : Bool := c == 123 || c == 125 || c == 40 || c == 41 || c == 44 || c == 59 || c == 58 || c == 61 || c == 43 || c == 45 || c == 42 || c == 47 || c == 37 || c == 60 || c == 62
def sigN : List UInt8 → Nat
  | [] => 0
  | c :: r => if twoC c && r.head? == some 61 then 2 else if oneC c then 1 else 0
def kindL : List UInt8 → Int
  | [] => 3
  | c :: _ => if letterB c.toNat then 0 else if digitB c.toNat then 1 else if c == 34 then 2 else 3
def lenL : List UInt8 → Nat
  | [] => 0
  | c :: r => if letterB c.toNat then preN wordB (c :: r) else if digitB c.toNat then numN (c :: r) else if c == 34 then strN (c :: r) else sigN (c :: r)

theorem numN_le (l : List UInt8) : numN l ≤ l.length := by
  unfold numN
  have h1 := preN_le digitB l
  split
  · rename_i r h
    have h2 := preN_le digitB r
    have h3 := congrArg List.length h
    simp only [List.length_drop, List.length_cons] at h3
    split <;> omega
  · exact h1
theorem strN_le (l : List UInt8) : strN l ≤ l.length := by
  unfold strN
  split
  · simp
  · rename_i c r
    split
    · rename_i x h
      have h3 := congrArg List.length h
      have h2 := preN_le textB r
      simp only [List.length_drop, List.length_cons] at h3
      simp only [List.length_cons]; omega
    · simp
theorem sigN_le (l : List UInt8) : sigN l ≤ l.length := by
  unfold sigN
  split
  · simp
  · rename_i c r
    split
    · rename_i h
      cases r with
      | nil => simp at h
      | cons d r => simp
    · split <;> simp
theorem lenL_le (l : List UInt8) : lenL l ≤ l.length := by
  unfold lenL
  split
  · simp
  · split
    · exact preN_le _ _
    · split
      · exact numN_le _
      · split
        · exact strN_le _
        · exact sigN_le _

/-! ### firstT, firstK as lists -/
theorem list_take (s : ByteArray) (k : Nat) : (s.extract 0 k).data.toList = s.data.toList.take k := by
  rw [extract_list, List.drop_zero, Nat.sub_zero]
theorem hpB_single (s : ByteArray) (a : UInt8) : hpB s ⟨#[a]⟩ = true ↔ ∃ m, s.data.toList = a :: m := by
  rw [hpB_iff]
  constructor
  · rintro ⟨m, h⟩; exact ⟨m, h.symm⟩
  · rintro ⟨m, h⟩; exact ⟨m, h.symm⟩
theorem take_len (p : Int → Bool) (l : List UInt8) : (l.take (preN p l)).length = preN p l := by
  rw [List.length_take]; have := preN_le p l; omega
theorem whole_size (s : ByteArray) : (wholeB s).size = preN digitB s.data.toList := by
  unfold wholeB; rw [size_list, list_take, take_len]
theorem numB_list (s : ByteArray) : (numB s).data.toList = s.data.toList.take (numN s.data.toList) := by
  have hw := whole_size s
  have hd : (s.extract (wholeB s).size s.size).data.toList = s.data.toList.drop (preN digitB s.data.toList) := by rw [list_drop, hw]
  unfold numB
  by_cases hp : hpB (s.extract (wholeB s).size s.size) ⟨#[46]⟩ = true
  · obtain ⟨m, hm⟩ := (hpB_single _ _).1 hp
    rw [hd] at hm
    have hf : (fracB s).data.toList = m := by
      unfold fracB
      rw [cutS_yes hp, list_drop, hd, hm]; rfl
    have hps : (partB s).size = preN digitB m := by
      unfold partB; rw [size_list, list_take, hf, take_len]
    unfold numN
    rw [hm]
    simp only [hps, hp, true_and]
    by_cases h0 : preN digitB m ≠ 0
    · rw [if_pos h0, if_pos h0, list_take, hw]
    · rw [if_neg h0, if_neg h0]
      show (wholeB s).data.toList = _
      unfold wholeB; rw [list_take]
  · rw [if_neg (fun h => hp h.1)]
    have hn : numN s.data.toList = preN digitB s.data.toList := by
      unfold numN
      split
      · rename_i r h
        exact absurd ((hpB_single _ _).2 ⟨r, by rw [hd, h]⟩) hp
      · rfl
    rw [hn]; unfold wholeB; rw [list_take]
theorem strB_list (s : ByteArray) (c : UInt8) (r : List UInt8) (hs : s.data.toList = c :: r) : (strB s).data.toList = s.data.toList.take (strN s.data.toList) := by
  have hr : (s.extract 1 s.size).data.toList = r := by rw [list_drop, hs]; rfl
  have ht : (textBs s).size = preN textB r := by unfold textBs; rw [size_list, list_take, hr, take_len]
  have hd : (s.extract (1 + (textBs s).size) s.size).data.toList = r.drop (preN textB r) := by rw [list_drop, ht, hs, Nat.add_comm, List.drop_succ_cons]
  unfold strB
  by_cases hp : hpB (s.extract (1 + (textBs s).size) s.size) ⟨#[34]⟩ = true
  · obtain ⟨m, hm⟩ := (hpB_single _ _).1 hp
    rw [hd] at hm
    rw [if_pos hp, list_take, ht, hs]
    have : strN (c :: r) = preN textB r + 2 := by simp only [strN]; rw [hm]; rfl
    rw [this]
  · rw [if_neg hp, hs]
    have : strN (c :: r) = 0 := by
      simp only [strN]
      split
      · rename_i x h
        exact absurd ((hpB_single _ _).2 ⟨x, by rw [hd, h]⟩) hp
      · rfl
    rw [this]; rfl
theorem isPre_two (a b c : UInt8) (r : List UInt8) : ([a, b] <+: c :: r) ↔ (a = c ∧ r.head? = some b) := by
  cases r with
  | nil => simp
  | cons d r => simp [List.cons_prefix_cons]; exact fun _ => eq_comm
theorem isPre_one (a c : UInt8) (r : List UInt8) : ([a] <+: c :: r) ↔ a = c := by simp [List.cons_prefix_cons]

theorem head_some (r : List UInt8) (x : UInt8) (h : (r.head? == some x) = true) : ∃ r', r = x :: r' := by
  cases r with
  | nil => simp at h
  | cons d r => simp at h; subst h; exact ⟨r, rfl⟩
theorem sig_find (s : ByteArray) (c : UInt8) (r : List UInt8) (hs : s.data.toList = c :: r) : (signB s).data.toList = s.data.toList.take (sigN s.data.toList) := by
  have h2 : ∀ a b : UInt8, hpB s ⟨#[a, b]⟩ = (a == c && r.head? == some b) := by
    intro a b
    rw [Bool.eq_iff_iff, hpB_iff, hs]
    show ([a, b] <+: c :: r) ↔ _
    rw [isPre_two]; simp
  have h1 : ∀ a : UInt8, hpB s ⟨#[a]⟩ = (a == c) := by
    intro a
    rw [Bool.eq_iff_iff, hpB_iff, hs]
    show ([a] <+: c :: r) ↔ _
    rw [isPre_one]; simp
  unfold signB signList
  rw [hs]
  simp only [List.find?, h2, h1]
  unfold sigN
  simp only
  generalize hb : (r.head? == some 61) = e
  by_cases h60 : c = 60
  · subst h60; cases e <;> first | rfl | (obtain ⟨r', hr⟩ := head_some r 61 hb; subst hr; rfl)
  by_cases h62 : c = 62
  · subst h62; cases e <;> first | rfl | (obtain ⟨r', hr⟩ := head_some r 61 hb; subst hr; rfl)
  by_cases h61 : c = 61
  · subst h61; cases e <;> first | rfl | (obtain ⟨r', hr⟩ := head_some r 61 hb; subst hr; rfl)
  by_cases h33 : c = 33
  · subst h33; cases e <;> first | rfl | (obtain ⟨r', hr⟩ := head_some r 61 hb; subst hr; rfl)
  by_cases h123 : c = 123
  · subst h123; cases e <;> first | rfl | (obtain ⟨r', hr⟩ := head_some r 61 hb; subst hr; rfl)
  by_cases h125 : c = 125
  · subst h125; cases e <;> first | rfl | (obtain ⟨r', hr⟩ := head_some r 61 hb; subst hr; rfl)
  by_cases h40 : c = 40
  · subst h40; cases e <;> first | rfl | (obtain ⟨r', hr⟩ := head_some r 61 hb; subst hr; rfl)
  by_cases h41 : c = 41
  · subst h41; cases e <;> first | rfl | (obtain ⟨r', hr⟩ := head_some r 61 hb; subst hr; rfl)
  by_cases h44 : c = 44
  · subst h44; cases e <;> first | rfl | (obtain ⟨r', hr⟩ := head_some r 61 hb; subst hr; rfl)
  by_cases h59 : c = 59
  · subst h59; cases e <;> first | rfl | (obtain ⟨r', hr⟩ := head_some r 61 hb; subst hr; rfl)
  by_cases h58 : c = 58
  · subst h58; cases e <;> first | rfl | (obtain ⟨r', hr⟩ := head_some r 61 hb; subst hr; rfl)
  by_cases h43 : c = 43
  · subst h43; cases e <;> first | rfl | (obtain ⟨r', hr⟩ := head_some r 61 hb; subst hr; rfl)
  by_cases h45 : c = 45
  · subst h45; cases e <;> first | rfl | (obtain ⟨r', hr⟩ := head_some r 61 hb; subst hr; rfl)
  by_cases h42 : c = 42
  · subst h42; cases e <;> first | rfl | (obtain ⟨r', hr⟩ := head_some r 61 hb; subst hr; rfl)
  by_cases h47 : c = 47
  · subst h47; cases e <;> first | rfl | (obtain ⟨r', hr⟩ := head_some r 61 hb; subst hr; rfl)
  by_cases h37 : c = 37
  · subst h37; cases e <;> first | rfl | (obtain ⟨r', hr⟩ := head_some r 61 hb; subst hr; rfl)
  have e60 : ((60 : UInt8) == c) = false := by simpa using fun h => h60 h.symm
  have e62 : ((62 : UInt8) == c) = false := by simpa using fun h => h62 h.symm
  have e61 : ((61 : UInt8) == c) = false := by simpa using fun h => h61 h.symm
  have e33 : ((33 : UInt8) == c) = false := by simpa using fun h => h33 h.symm
  have e123 : ((123 : UInt8) == c) = false := by simpa using fun h => h123 h.symm
  have e125 : ((125 : UInt8) == c) = false := by simpa using fun h => h125 h.symm
  have e40 : ((40 : UInt8) == c) = false := by simpa using fun h => h40 h.symm
  have e41 : ((41 : UInt8) == c) = false := by simpa using fun h => h41 h.symm
  have e44 : ((44 : UInt8) == c) = false := by simpa using fun h => h44 h.symm
  have e59 : ((59 : UInt8) == c) = false := by simpa using fun h => h59 h.symm
  have e58 : ((58 : UInt8) == c) = false := by simpa using fun h => h58 h.symm
  have e43 : ((43 : UInt8) == c) = false := by simpa using fun h => h43 h.symm
  have e45 : ((45 : UInt8) == c) = false := by simpa using fun h => h45 h.symm
  have e42 : ((42 : UInt8) == c) = false := by simpa using fun h => h42 h.symm
  have e47 : ((47 : UInt8) == c) = false := by simpa using fun h => h47 h.symm
  have e37 : ((37 : UInt8) == c) = false := by simpa using fun h => h37 h.symm
  have t0 : twoC c = false := by simp [twoC, h60, h62, h61, h33]
  have t1 : oneC c = false := by simp [oneC, h60, h62, h61, h123, h125, h40, h41, h44, h59, h58, h43, h45, h42, h47, h37]
  simp only [e60, e62, e61, e33, e123, e125, e40, e41, e44, e59, e58, e43, e45, e42, e47, e37, t0, t1, Bool.false_and]
  rfl

theorem head_cons (s : ByteArray) (c : UInt8) (r : List UInt8) (hs : s.data.toList = c :: r) : headB s = c.toNat := by unfold headB; rw [hs]
theorem firstT_list (s : ByteArray) (h : s.data.toList ≠ []) : (firstT s).data.toList = s.data.toList.take (lenL s.data.toList) := by
  obtain ⟨c, r, hs⟩ : ∃ c r, s.data.toList = c :: r := by
    cases hl : s.data.toList with
    | nil => exact absurd hl h
    | cons c r => exact ⟨c, r, rfl⟩
  have hh := head_cons s c r hs
  unfold firstT
  rw [hh]
  have e34 : ((c.toNat : Int) == 34) = (c == 34) := by
    rw [Bool.eq_iff_iff]; simp
    constructor
    · intro h; exact UInt8.toNat_inj.1 (by show c.toNat = 34; omega)
    · rintro rfl; rfl
  have hl : lenL s.data.toList = if letterB c.toNat then preN wordB s.data.toList else if digitB c.toNat then numN s.data.toList else if c == 34 then strN s.data.toList else sigN s.data.toList := by rw [hs]; rfl
  rw [hl, e34]
  split
  · rw [list_take]
  · split
    · rw [numB_list]
    · split
      · rw [strB_list s c r hs]
      · rw [sig_find s c r hs]
theorem firstK_list (s : ByteArray) (h : s.data.toList ≠ []) : firstK s = kindL s.data.toList := by
  obtain ⟨c, r, hs⟩ : ∃ c r, s.data.toList = c :: r := by
    cases hl : s.data.toList with
    | nil => exact absurd hl h
    | cons c r => exact ⟨c, r, rfl⟩
  have hh := head_cons s c r hs
  have e34 : ((c.toNat : Int) == 34) = (c == 34) := by
    rw [Bool.eq_iff_iff]; simp
    constructor
    · intro h; exact UInt8.toNat_inj.1 (by show c.toNat = 34; omega)
    · rintro rfl; rfl
  unfold firstK
  rw [hh, hs, e34]
  rfl
theorem firstT_size (s : ByteArray) (h : s.data.toList ≠ []) : (firstT s).size = lenL s.data.toList := by
  rw [size_list, firstT_list s h, List.length_take]
  have := lenL_le s.data.toList; omega

/-! ### the tokens of what is left of a source -/
/-- Do the first bytes form a token? -/
def okL (l : List UInt8) : Bool := decide (lenL l ≠ 0) && decide ((lenL l : Int) ≤ mostOf (kindL l))
/-- A token: its kind, its bytes, how many bytes of the source are left where it begins. -/
abbrev RTok := Int × List UInt8 × Nat
def tokL (l : List UInt8) : RTok := (kindL l, l.take (lenL l), l.length)
/-- The bytes of a token's text. -/
def textL (k : Int) (raw : List UInt8) : List UInt8 := if k = 2 then (raw.drop 1).dropLast else raw
/-- l holds just these tokens (a token begins at once, or l is empty). -/
inductive Toks : List UInt8 → List RTok → Prop
  | nil : Toks [] []
  | cons {l : List UInt8} {ts : List RTok} : okL l = true → Toks (skipL false (l.drop (lenL l))) ts → Toks l (tokL l :: ts)
/-- l has an error where r bytes are left. -/
inductive Fails : List UInt8 → Nat → Prop
  | here {l : List UInt8} : l ≠ [] → okL l = false → Fails l l.length
  | later {l : List UInt8} {r : Nat} : okL l = true → Fails (skipL false (l.drop (lenL l))) r → Fails l r

theorem ok_ne {l : List UInt8} (h : okL l = true) : l ≠ [] := by rintro rfl; simp [okL, lenL] at h
theorem ok_len {l : List UInt8} (h : okL l = true) : lenL l ≠ 0 := by
  unfold okL at h; rw [Bool.and_eq_true] at h; exact of_decide_eq_true h.1
theorem rest_lt {l : List UInt8} (h : okL l = true) : (skipL false (l.drop (lenL l))).length < l.length := by
  have h1 := skip_length false (l.drop (lenL l))
  have h2 := ok_len h
  have h3 : l.length ≠ 0 := fun e => ok_ne h (List.eq_nil_of_length_eq_zero e)
  rw [List.length_drop] at h1; omega
theorem toks_or_fails : ∀ (n : Nat) (l : List UInt8), l.length ≤ n → (∃ ts, Toks l ts) ∨ ∃ r, Fails l r := by
  intro n
  induction n with
  | zero =>
    intro l h
    obtain rfl := List.eq_nil_of_length_eq_zero (Nat.le_zero.1 h)
    exact .inl ⟨[], .nil⟩
  | succ n ih =>
    intro l h
    by_cases hl : l = []
    · subst hl; exact .inl ⟨[], .nil⟩
    · cases ho : okL l with
      | false => exact .inr ⟨_, .here hl ho⟩
      | true =>
        have := rest_lt ho
        rcases ih _ (show (skipL false (l.drop (lenL l))).length ≤ n by omega) with ⟨ts, h⟩ | ⟨r, h⟩
        · exact .inl ⟨_, .cons ho h⟩
        · exact .inr ⟨_, .later ho h⟩
theorem Toks.len {l : List UInt8} {ts : List RTok} (h : Toks l ts) : ts.length ≤ l.length := by
  induction h with
  | nil => simp
  | cons ho _ ih => have := rest_lt ho; simp; omega
theorem Fails.le {l : List UInt8} {r : Nat} (h : Fails l r) : r ≤ l.length ∧ 0 < r := by
  induction h with
  | here hl _ => exact ⟨Nat.le_refl _, List.length_pos_iff.2 hl⟩
  | later ho _ ih => have := rest_lt ho; omega

/-! ### Scan's value by the tokens -/
theorem sub_list (s : ByteArray) (p : Nat) : (subAt s p).data.toList = s.data.toList.drop p := list_drop s p
theorem drop_ne {s : ByteArray} {p : Nat} (h : p < s.size) : s.data.toList.drop p ≠ [] := by
  intro e; have := congrArg List.length e; rw [List.length_drop, ← size_list] at this; simp at this; omega
theorem drop_skip (l : List UInt8) (b : Bool) : skipL b l = l.drop (l.length - (skipL b l).length) := by
  have : ∀ (l : List UInt8) (b : Bool), ∃ k, skipL b l = l.drop k := by
    intro l
    induction l with
    | nil => intro b; exact ⟨0, by cases b <;> rfl⟩
    | cons c l ih =>
      intro b
      cases b <;> simp only [skipL]
      · split
        · obtain ⟨k, h⟩ := ih false; exact ⟨k + 1, by rw [h]; rfl⟩
        · split
          · obtain ⟨k, h⟩ := ih true; exact ⟨k + 1, by rw [h]; rfl⟩
          · exact ⟨0, rfl⟩
      · split
        · obtain ⟨k, h⟩ := ih false; exact ⟨k + 1, by rw [h]; rfl⟩
        · obtain ⟨k, h⟩ := ih true; exact ⟨k + 1, by rw [h]; rfl⟩
  obtain ⟨k, h⟩ := this l b
  rw [h, List.length_drop]
  by_cases hk : k ≤ l.length
  · congr 1; omega
  · rw [List.drop_eq_nil_of_le (by omega), List.drop_eq_nil_of_le (by omega)]
theorem okAt_list (s : ByteArray) (p : Nat) (h : p < s.size) : okAt s p = okL (s.data.toList.drop p) ∧ kAt s p = kindL (s.data.toList.drop p) ∧ (tAt s p).data.toList = (s.data.toList.drop p).take (lenL (s.data.toList.drop p)) ∧ (tAt s p).size = lenL (s.data.toList.drop p) := by
  have hne : (subAt s p).data.toList ≠ [] := by rw [sub_list]; exact drop_ne h
  have hk : kAt s p = kindL (s.data.toList.drop p) := by unfold kAt; rw [firstK_list _ hne, sub_list]
  have hz : (tAt s p).size = lenL (s.data.toList.drop p) := by unfold tAt; rw [firstT_size _ hne, sub_list]
  refine ⟨?_, hk, by unfold tAt; rw [firstT_list _ hne, sub_list], hz⟩
  unfold okAt okOf okL
  rw [hk, hz]
theorem next_list (s : ByteArray) (p : Nat) (h : p < s.size) : s.data.toList.drop (nextAt s p) = skipL false ((s.data.toList.drop p).drop (lenL (s.data.toList.drop p))) := by
  obtain ⟨_, _, _, hz⟩ := okAt_list s p h
  unfold nextAt spaceN
  rw [hz, size_list, sub_list, List.drop_drop]
  generalize lenL (s.data.toList.drop p) = n
  rw [drop_skip (s.data.toList.drop (p + n)) false, List.drop_drop]
  congr 1
  rw [List.length_drop, List.length_drop]
  have := skip_length false (s.data.toList.drop (p + n))
  rw [List.length_drop] at this
  omega

/-- A token as Scan hands it back, of a source of n bytes. -/
def mkTok (n : Nat) (t : RTok) : Tok := (t.1, ⟨(textL t.1 t.2.1).toArray⟩, ((n - t.2.2 : Nat) : Int))
theorem textOf_list (k : Int) (t : ByteArray) : textOf k t = ⟨(textL k t.data.toList).toArray⟩ := by
  apply byte_ext
  unfold textOf textL
  by_cases hk : k = 2
  · rw [if_pos hk]
    by_cases h0 : t.size ≠ 0
    · rw [if_pos ⟨hk, h0⟩, extract_list, List.toList_toArray, List.dropLast_eq_take, List.length_drop, size_list]
    · have : t.data.toList = [] := List.eq_nil_of_length_eq_zero (by rw [← size_list]; omega)
      rw [if_neg (fun h => h0 h.2), this]; rfl
  · rw [if_neg hk, if_neg (fun h => hk h.1)]
theorem tokAt_list (s : ByteArray) (p : Nat) (h : p < s.size) : tokAt s p = mkTok s.size (tokL (s.data.toList.drop p)) := by
  obtain ⟨_, hk, ht, _⟩ := okAt_list s p h
  unfold tokAt mkTok tokL
  rw [textOf_list, hk, ht, List.length_drop, ← size_list]
  have : s.size - (s.size - p) = p := by omega
  rw [this]
theorem nextAt_size (s : ByteArray) (p : Nat) (h : p ≤ s.size) : nextAt s p ≤ s.size := nextAt_le s p h
theorem scanGo_toks (s : ByteArray) : ∀ (f p : Nat) (acc : List Tok) (ts : List RTok), p ≤ s.size → s.size - p < f → Toks (s.data.toList.drop p) ts → scanGo s f p acc = (acc ++ ts.map (mkTok s.size) ++ [endTok s], 0, 0) := by
  intro f
  induction f with
  | zero => intro p acc ts _ h; omega
  | succ f ih =>
    intro p acc ts hp hf ht
    simp only [scanGo]
    by_cases hlt : p < s.size
    · rw [if_pos hlt]
      obtain ⟨ho, _, _, _⟩ := okAt_list s p hlt
      generalize hl : s.data.toList.drop p = l at ht
      cases ht with
      | nil => exact absurd hl (drop_ne hlt)
      | cons hok ht2 =>
        rename_i ts
        rw [hl] at ho
        rw [if_pos (by rw [ho]; exact hok)]
        have hn := ok_pos s p (by rw [ho]; exact hok)
        have hx := next_list s p hlt
        rw [hl] at hx
        rw [ih (nextAt s p) _ ts (nextAt_le s p hp) (by omega) (by rw [hx]; exact ht2), tokAt_list s p hlt, hl]
        simp
    · rw [if_neg hlt]
      have : s.data.toList.drop p = [] := List.drop_eq_nil_of_le (by rw [← size_list]; omega)
      rw [this] at ht
      cases ht
      · simp
      · rename_i h _; exact absurd rfl (ok_ne h)
theorem scanGo_fails (s : ByteArray) : ∀ (f p : Nat) (acc : List Tok) (r : Nat), p ≤ s.size → s.size - p < f → Fails (s.data.toList.drop p) r → scanGo s f p acc = ([], 2, ((s.size - r : Nat) : Int)) := by
  intro f
  induction f with
  | zero => intro p acc r _ h; omega
  | succ f ih =>
    intro p acc r hp hf ht
    simp only [scanGo]
    have hlt : p < s.size := by
      have h := ht.le
      rw [List.length_drop, ← size_list] at h
      omega
    rw [if_pos hlt]
    obtain ⟨ho, _, _, _⟩ := okAt_list s p hlt
    generalize hl : s.data.toList.drop p = l at ht
    rw [hl] at ho
    cases ht with
    | here hne hok =>
      rw [if_neg (by rw [ho, hok]; decide), ← hl, List.length_drop, ← size_list]
      have : s.size - (s.size - p) = p := by omega
      rw [this]
    | later hok ht2 =>
      rw [if_pos (by rw [ho]; exact hok)]
      have hn := ok_pos s p (by rw [ho]; exact hok)
      have hx := next_list s p hlt
      rw [hl] at hx
      exact ih (nextAt s p) _ r (nextAt_le s p hp) (by omega) (by rw [hx]; exact ht2)
theorem space_drop (s : ByteArray) : s.data.toList.drop (spaceN s) = skipL false s.data.toList := by
  rw [drop_skip s.data.toList false]; unfold spaceN; rw [size_list]
theorem scanV_toks (s : ByteArray) (hs : s.size ≤ 65536) (ts : List RTok) (h : Toks (skipL false s.data.toList) ts) : scanV s = (ts.map (mkTok s.size) ++ [endTok s], 0, 0) := by
  unfold scanV
  rw [if_neg (by omega), scanGo_toks s _ _ _ ts (spaceN_le s) (by omega) (by rw [space_drop]; exact h)]; rfl
theorem scanV_fails (s : ByteArray) (hs : s.size ≤ 65536) (r : Nat) (h : Fails (skipL false s.data.toList) r) : scanV s = ([], 2, ((s.size - r : Nat) : Int)) := by
  unfold scanV
  rw [if_neg (by omega), scanGo_fails s _ _ _ r (spaceN_le s) (by omega) (by rw [space_drop]; exact h)]
theorem scanV_cases (s : ByteArray) (hs : s.size ≤ 65536) : (∃ ts, Toks (skipL false s.data.toList) ts ∧ scanV s = (ts.map (mkTok s.size) ++ [endTok s], 0, 0)) ∨ ∃ r, Fails (skipL false s.data.toList) r ∧ scanV s = ([], 2, ((s.size - r : Nat) : Int)) := by
  rcases toks_or_fails _ (skipL false s.data.toList) (Nat.le_refl _) with ⟨ts, h⟩ | ⟨r, h⟩
  · exact .inl ⟨ts, h, scanV_toks s hs ts h⟩
  · exact .inr ⟨r, h, scanV_fails s hs r h⟩
end Go.Proofs.YtjhinmdnabmdoaaDoor.Lex
