/- Tokens do not depend on what follows them but for a byte: cuts, gaps and what is appended. Plain. -/
import Derived.Test.YtjhinmdnabmdoaaDoorLexT
set_option linter.unusedVariables false
set_option linter.unusedSimpArgs false
namespace Go.Proofs.YtjhinmdnabmdoaaDoor.Lex

theorem preN_app (p : Int → Bool) (x m : List UInt8) (hx : ∀ c ∈ x, p c.toNat = true) (hm : ∀ c r, m = c :: r → p c.toNat = false) : preN p (x ++ m) = x.length := by
  induction x with
  | nil =>
    cases m with
    | nil => rfl
    | cons c r => simp [preN, hm c r rfl]
  | cons c x ih =>
    simp only [List.cons_append, preN, hx c (List.mem_cons_self ..), if_true, List.length_cons]
    rw [ih (fun d hd => hx d (List.mem_cons_of_mem _ hd))]
theorem preN_all (p : Int → Bool) (l : List UInt8) : ∀ c ∈ l.take (preN p l), p c.toNat = true := by
  induction l with
  | nil => simp
  | cons c l ih =>
    simp only [preN]
    split
    · rename_i h
      rw [List.take_succ_cons]
      intro d hd
      rcases List.mem_cons.1 hd with rfl | hd
      · exact h
      · exact ih d hd
    · simp
theorem preN_stop (p : Int → Bool) (l : List UInt8) (c : UInt8) (r : List UInt8) (h : l.drop (preN p l) = c :: r) : p c.toNat = false := by
  induction l with
  | nil => simp at h
  | cons d l ih =>
    simp only [preN] at h
    split at h
    · exact ih h
    · rename_i hd
      simp at h
      rw [← h.1]; simpa using hd
/-- Where x is all of a class, and the whole's prefix of that class is x: the next byte is not of it. -/
theorem preN_next (p : Int → Bool) (x : List UInt8) (c : UInt8) (r : List UInt8) (h : preN p (x ++ c :: r) = x.length) : p c.toNat = false :=
  preN_stop p (x ++ c :: r) c r (by rw [h, List.drop_left])

theorem blank_facts (c : UInt8) (h : blankB c = true) : wordB c.toNat = false ∧ digitB c.toNat = false ∧ textB c.toNat = (c == 32) ∧ c ≠ 46 ∧ c ≠ 61 ∧ letterB c.toNat = false := by
  unfold blankB at h
  simp only [Bool.or_eq_true, beq_iff_eq] at h
  rcases h with ((rfl | rfl) | rfl) | rfl <;> decide

/-- m may stand where l2 stood behind a token. -/
def Brk (l2 m : List UInt8) : Prop := ∀ c r, m = c :: r → blankB c = true ∨ (c ≠ 46 ∧ ∃ r2, l2 = c :: r2)

theorem num_plain (raw m : List UInt8) (hx : ∀ c ∈ raw, digitB c.toNat = true) (hm : ∀ c r, m = c :: r → digitB c.toNat = false ∧ c ≠ 46) : numN (raw ++ m) = raw.length := by
  have hp := preN_app digitB raw m hx (fun c r h => (hm c r h).1)
  unfold numN
  rw [hp, List.drop_left]
  split
  · rename_i r
    exact absurd rfl (hm 46 r rfl).2
  · rfl
theorem num_same (raw l2 m : List UInt8) (hd : numN (raw ++ l2) = raw.length) (h0 : raw ≠ []) (hm : Brk l2 m) : numN (raw ++ m) = raw.length := by
  have hsplit := List.take_append_drop (preN digitB (raw ++ l2)) (raw ++ l2)
  have hall := preN_all digitB (raw ++ l2)
  have hlen := take_len digitB (raw ++ l2)
  have hstop := preN_stop digitB (raw ++ l2)
  unfold numN at hd
  split at hd
  · rename_i r hr
    by_cases he : preN digitB r ≠ 0
    · rw [if_pos he] at hd
      -- a fraction
      generalize hw : preN digitB (raw ++ l2) = w at *
      have hraw : raw = (raw ++ l2).take (w + 1 + preN digitB r) := by rw [hd]; simp
      have h1 : (raw ++ l2).take w = raw.take w := by rw [List.take_append_of_le_length (by omega)]
      have hr2 : r = r.take (preN digitB r) ++ r.drop (preN digitB r) := (List.take_append_drop _ _).symm
      have hform : raw = raw.take w ++ 46 :: r.take (preN digitB r) := by
        have h2 : (raw ++ l2).take (w + 1 + preN digitB r) = (raw ++ l2).take w ++ 46 :: r.take (preN digitB r) := by
          conv => lhs; rw [← hsplit]
          rw [List.take_append, hlen, hr]
          have : w + 1 + preN digitB r - w = preN digitB r + 1 := by omega
          rw [this, List.take_of_length_le (by rw [hlen]; omega), List.take_succ_cons]
        rw [h1] at h2
        rw [← h2]; exact hraw
      have hl2 : l2 = r.drop (preN digitB r) := by
        have : (raw ++ l2).drop (w + 1 + preN digitB r) = l2 := by rw [hd]; simp
        rw [← this, show w + 1 + preN digitB r = w + (1 + preN digitB r) by omega, ← List.drop_drop, hr, Nat.add_comm 1, List.drop_succ_cons]
      have hmd : ∀ c x, m = c :: x → digitB c.toNat = false := by
        intro c x hc
        rcases hm c x hc with hb | ⟨_, r2, h2⟩
        · exact (blank_facts c hb).2.1
        · rw [h2] at hl2
          exact preN_stop digitB r c r2 hl2.symm
      have hm2 : raw ++ m = raw.take w ++ (46 :: (r.take (preN digitB r) ++ m)) := by
        conv => lhs; rw [hform]
        simp
      have hwt : (raw.take w).length = w := by rw [← h1, hlen]
      have hp1 : preN digitB (raw ++ m) = w := by
        rw [hm2, preN_app digitB _ _ (by rw [← h1]; exact hall) (by intro c x h; cases h; decide), hwt]
      have hp2 : preN digitB (r.take (preN digitB r) ++ m) = preN digitB r := by
        rw [preN_app digitB _ _ (preN_all digitB r) hmd, take_len]
      unfold numN
      have hdr : (raw ++ m).drop (preN digitB (raw ++ m)) = 46 :: (r.take (preN digitB r) ++ m) := by
        rw [hp1, hm2]
        conv => lhs; rw [show w = (raw.take w).length from hwt.symm]
        rw [List.length_take]
        have : min w raw.length = w := by rw [← List.length_take]; exact hwt
        rw [this]
        exact List.drop_left' hwt
      rw [hdr]
      simp only [hp1, hp2]
      rw [if_pos he]; exact hd
    · rw [if_neg he] at hd
      have hraw : raw = (raw ++ l2).take (preN digitB (raw ++ l2)) := by rw [hd]; simp
      have hl2 : l2 = 46 :: r := by rw [← hr, hd]; simp
      refine num_plain raw m (by rw [hraw]; exact hall) ?_
      intro c x hc
      rcases hm c x hc with hb | ⟨h46, r2, h2⟩
      · have := blank_facts c hb; exact ⟨this.2.1, this.2.2.2.1⟩
      · rw [h2] at hl2; exact absurd (List.cons.inj hl2).1 h46
  · have hraw : raw = (raw ++ l2).take (preN digitB (raw ++ l2)) := by rw [hd]; simp
    have hl2 : (raw ++ l2).drop (preN digitB (raw ++ l2)) = l2 := by rw [hd]; simp
    refine num_plain raw m (by rw [hraw]; exact hall) ?_
    intro c x hc
    rcases hm c x hc with hb | ⟨h46, r2, h2⟩
    · have := blank_facts c hb; exact ⟨this.2.1, this.2.2.2.1⟩
    · exact ⟨preN_stop digitB (raw ++ l2) c r2 (by rw [hl2, h2]), h46⟩

theorem str_same (raw l2 m : List UInt8) (hd : strN (raw ++ l2) = raw.length) (h0 : raw ≠ []) : strN (raw ++ m) = raw.length := by
  obtain ⟨q, x, rfl⟩ : ∃ q x, raw = q :: x := by
    cases raw with
    | nil => exact absurd rfl h0
    | cons q x => exact ⟨q, x, rfl⟩
  rw [List.cons_append] at hd ⊢
  simp only [strN] at hd ⊢
  have hall := preN_all textB (x ++ l2)
  have hlen := take_len textB (x ++ l2)
  have hsplit := List.take_append_drop (preN textB (x ++ l2)) (x ++ l2)
  split at hd
  · rename_i r hr
    simp only [List.length_cons] at hd
    have hx : x = (x ++ l2).take (preN textB (x ++ l2)) ++ [34] := by
      have h1 : (x ++ l2).take x.length = x := by simp
      conv => lhs; rw [← h1, ← hsplit]
      rw [List.take_append, hlen, hr, show x.length = preN textB (x ++ l2) + 1 by omega, List.take_of_length_le (by rw [hlen]; omega)]
      rw [show preN textB (x ++ l2) + 1 - preN textB (x ++ l2) = 1 by omega]; rfl
    have hm : x ++ m = (x ++ l2).take (preN textB (x ++ l2)) ++ 34 :: m := by
      conv => lhs; rw [hx]
      simp
    have hp : preN textB (x ++ m) = preN textB (x ++ l2) := by
      rw [hm, preN_app textB _ _ hall (by intro c r h; cases h; decide), hlen]
    rw [hp, hm, List.drop_left' hlen]
    simp only [List.length_cons]; exact hd
  · simp at hd
theorem sig_same (raw l2 m : List UInt8) (hd : sigN (raw ++ l2) = raw.length) (h0 : raw ≠ []) (hm : Brk l2 m) : sigN (raw ++ m) = raw.length := by
  obtain ⟨c, x, rfl⟩ : ∃ c x, raw = c :: x := by
    cases raw with
    | nil => exact absurd rfl h0
    | cons c x => exact ⟨c, x, rfl⟩
  rw [List.cons_append] at hd ⊢
  simp only [sigN] at hd ⊢
  split at hd
  · rename_i h
    simp only [List.length_cons] at hd
    obtain ⟨d, rfl⟩ : ∃ d, x = [d] := by
      match x, hd with
      | [d], _ => exact ⟨d, rfl⟩
    have h' : (twoC c && ([d] ++ m).head? == some 61) = true := h
    rw [if_pos h']; rfl
  · split at hd
    · rename_i h1 h2
      simp only [List.length_cons] at hd
      obtain rfl : x = [] := List.eq_nil_of_length_eq_zero (by omega)
      have h1' : ¬(twoC c && l2.head? == some 61) = true := h1
      rw [if_neg, if_pos h2]; rfl
      intro h
      rw [Bool.and_eq_true] at h
      have h3 : (m.head? == some 61) = true := h.2
      obtain ⟨r', hr⟩ := head_some m 61 h3
      rcases hm 61 r' hr with hb | ⟨_, r2, hr2⟩
      · exact absurd hb (by decide)
      · apply h1'; rw [hr2, h.1]; rfl
    · simp at hd

/-- **A TOKEN STAYS WHAT IT IS**, whatever stands behind it, if that begins with white space, or as what stood there (but for '.'), or is nothing. -/
theorem len_same (raw l2 m : List UInt8) (hd : lenL (raw ++ l2) = raw.length) (h0 : raw ≠ []) (hm : Brk l2 m) : lenL (raw ++ m) = raw.length ∧ kindL (raw ++ m) = kindL (raw ++ l2) := by
  obtain ⟨c, x, hx⟩ : ∃ c x, raw = c :: x := by
    cases raw with
    | nil => exact absurd rfl h0
    | cons c x => exact ⟨c, x, rfl⟩
  have e1 : ∀ y, lenL (raw ++ y) = if letterB c.toNat then preN wordB (raw ++ y) else if digitB c.toNat then numN (raw ++ y) else if c == 34 then strN (raw ++ y) else sigN (raw ++ y) := by
    intro y; rw [hx]; rfl
  refine ⟨?_, by rw [hx]; rfl⟩
  rw [e1] at hd ⊢
  split at hd
  · rename_i h; rw [if_pos h]
    refine preN_app wordB raw m ?_ ?_
    · have hraw : raw = (raw ++ l2).take (preN wordB (raw ++ l2)) := by rw [hd]; simp
      rw [hraw]; exact preN_all wordB _
    · intro d r hd2
      rcases hm d r hd2 with hb | ⟨_, r2, h2⟩
      · exact (blank_facts d hb).1
      · rw [h2] at hd; exact preN_next wordB raw d r2 hd
  · rename_i h; rw [if_neg h]
    split at hd
    · rename_i h2; rw [if_pos h2]; exact num_same raw l2 m hd h0 hm
    · rename_i h2; rw [if_neg h2]
      split at hd
      · rename_i h3; rw [if_pos h3]; exact str_same raw l2 m hd h0
      · rename_i h3; rw [if_neg h3]; exact sig_same raw l2 m hd h0 hm
theorem tok_same (l m : List UInt8) (h : okL l = true) (hm : Brk (l.drop (lenL l)) m) :
    okL (l.take (lenL l) ++ m) = true ∧ lenL (l.take (lenL l) ++ m) = lenL l ∧ kindL (l.take (lenL l) ++ m) = kindL l := by
  have hle := lenL_le l
  have hl : (l.take (lenL l)).length = lenL l := by rw [List.length_take]; omega
  have h0 : l.take (lenL l) ≠ [] := by intro e; rw [e] at hl; exact ok_len h hl.symm
  have := len_same (l.take (lenL l)) (l.drop (lenL l)) m (by rw [List.take_append_drop, hl]) h0 hm
  rw [List.take_append_drop, hl] at this
  refine ⟨?_, this.1, this.2⟩
  unfold okL at h ⊢
  rw [this.1, this.2]; exact h

/-! ### heads, and what is skipped -/
theorem head_ok (c : UInt8) (r : List UInt8) (h : okL (c :: r) = true) : blankB c = false ∧ c ≠ 35 ∧ c ≠ 46 := by
  have hs : ∀ c : UInt8, letterB c.toNat = false → digitB c.toNat = false → c ≠ 34 → oneC c = false → twoC c = false → okL (c :: r) = false := by
    intro c h1 h2 h3 h4 h5
    have : lenL (c :: r) = 0 := by
      simp only [lenL, h1, h2, sigN, h5, h4, Bool.false_and]
      rw [if_neg (by decide), if_neg (by decide), if_neg (by simpa using h3)]
      rfl
    simp [okL, this]
  refine ⟨?_, ?_, ?_⟩
  · cases hb : blankB c with
    | false => rfl
    | true =>
      exfalso
      unfold blankB at hb
      simp only [Bool.or_eq_true, beq_iff_eq] at hb
      rcases hb with ((rfl | rfl) | rfl) | rfl <;> rw [hs _ (by decide) (by decide) (by decide) (by decide) (by decide)] at h <;> cases h
  · rintro rfl; rw [hs _ (by decide) (by decide) (by decide) (by decide) (by decide)] at h; cases h
  · rintro rfl; rw [hs _ (by decide) (by decide) (by decide) (by decide) (by decide)] at h; cases h
theorem skip_head (c : UInt8) (r : List UInt8) (h1 : blankB c = false) (h2 : c ≠ 35) : skipL false (c :: r) = c :: r := by
  simp only [skipL, h1]
  rw [if_neg (by decide), if_neg (by simpa using h2)]
theorem skip_ok (l m : List UInt8) (h : okL l = true) : skipL false (l ++ m) = l ++ m := by
  obtain ⟨c, r, rfl⟩ : ∃ c r, l = c :: r := by
    cases l with
    | nil => exact absurd rfl (ok_ne h)
    | cons c r => exact ⟨c, r, rfl⟩
  have := head_ok c r h
  exact skip_head c (r ++ m) this.1 this.2.1
/-- What skipping leaves begins with neither white space nor '#'. -/
theorem skip_head_of (l : List UInt8) (b : Bool) (c : UInt8) (r : List UInt8) (h : skipL b l = c :: r) : blankB c = false ∧ c ≠ 35 := by
  induction l generalizing b with
  | nil => cases b <;> simp [skipL] at h
  | cons d l ih =>
    cases b <;> simp only [skipL] at h
    · split at h
      · exact ih _ h
      · split at h
        · exact ih _ h
        · rename_i h1 h2
          obtain ⟨rfl, _⟩ := List.cons.inj h
          exact ⟨by simpa using h1, by simpa using h2⟩
    · split at h <;> exact ih _ h
theorem skip_idem (l : List UInt8) (b : Bool) : skipL false (skipL b l) = skipL b l := by
  cases h : skipL b l with
  | nil => rfl
  | cons c r => have := skip_head_of l b c r h; exact skip_head c r this.1 this.2
/-- Reading w while skipping: within a comment behind it? none: w holds more than white space and comments. -/
def stL : Bool → List UInt8 → Option Bool
  | b, [] => some b
  | false, c :: w => if blankB c then stL false w else if c == 35 then stL true w else none
  | true, c :: w => if c == 10 then stL false w else stL true w
theorem skip_app (w : List UInt8) : ∀ (b b' : Bool) (v : List UInt8), stL b w = some b' → skipL b (w ++ v) = skipL b' v := by
  induction w with
  | nil => intro b b' v h; cases b <;> simp [stL] at h <;> subst h <;> rfl
  | cons c w ih =>
    intro b b' v h
    cases b <;> simp only [stL] at h <;> simp only [List.cons_append, skipL]
    · split at h
      · rename_i h1; rw [if_pos h1]; exact ih _ _ _ h
      · rename_i h1; rw [if_neg h1]
        split at h
        · rename_i h2; rw [if_pos h2]; exact ih _ _ _ h
        · cases h
    · split at h
      · rename_i h1; rw [if_pos h1]; exact ih _ _ _ h
      · rename_i h1; rw [if_neg h1]; exact ih _ _ _ h
theorem skip_split (l : List UInt8) : ∀ b : Bool, ∃ w b', l = w ++ skipL b l ∧ stL b w = some b' ∧ (skipL b l ≠ [] → b' = false) := by
  induction l with
  | nil => intro b; exact ⟨[], b, by cases b <;> rfl, by cases b <;> rfl, fun h => absurd (by cases b <;> rfl) h⟩
  | cons c l ih =>
    intro b
    cases b <;> simp only [skipL]
    · by_cases h1 : blankB c = true
      · rw [if_pos h1]
        obtain ⟨w, b', e, hs, hn⟩ := ih false
        exact ⟨c :: w, b', by rw [List.cons_append, ← e], by simp only [stL]; rw [if_pos h1]; exact hs, hn⟩
      · rw [if_neg h1]
        by_cases h2 : (c == 35) = true
        · rw [if_pos h2]
          obtain ⟨w, b', e, hs, hn⟩ := ih true
          exact ⟨c :: w, b', by rw [List.cons_append, ← e], by simp only [stL]; rw [if_neg h1, if_pos h2]; exact hs, hn⟩
        · rw [if_neg h2]; exact ⟨[], false, rfl, rfl, fun _ => rfl⟩
    · by_cases h1 : (c == 10) = true
      · rw [if_pos h1]
        obtain ⟨w, b', e, hs, hn⟩ := ih false
        exact ⟨c :: w, b', by rw [List.cons_append, ← e], by simp only [stL]; rw [if_pos h1]; exact hs, hn⟩
      · rw [if_neg h1]
        obtain ⟨w, b', e, hs, hn⟩ := ih true
        exact ⟨c :: w, b', by rw [List.cons_append, ← e], by simp only [stL]; rw [if_neg h1]; exact hs, hn⟩
/-- Skipping reaches the end within w: nothing is left of w alone. -/
theorem skip_all (w : List UInt8) (b b' : Bool) (h : stL b w = some b') : skipL b w = [] := by
  have := skip_app w b b' [] h
  rw [List.append_nil] at this; rw [this]; cases b' <;> rfl

/-! ### a gap within the tokens -/
/-- The tokens with so many bytes more behind them. -/
def shiftR (k : Nat) (t : RTok) : RTok := (t.1, t.2.1, t.2.2 + k)
/-- A gap: white space and whole comments. -/
structure Gap (g : List UInt8) : Prop where
  skip : ∀ v, skipL false (g ++ v) = skipL false v
  head : ∀ c r, g = c :: r → blankB c = true

theorem tokL_same (l m : List UInt8) (h : okL l = true) (hm : Brk (l.drop (lenL l)) m) (k : Nat) (hk : m.length = (l.drop (lenL l)).length + k) :
    tokL (l.take (lenL l) ++ m) = shiftR k (tokL l) := by
  obtain ⟨_, h2, h3⟩ := tok_same l m h hm
  have hl : (l.take (lenL l)).length = lenL l := by rw [List.length_take]; have := lenL_le l; omega
  unfold tokL shiftR
  rw [h2, h3]
  have : (l.take (lenL l) ++ m).take (lenL l) = l.take (lenL l) := List.take_left' hl
  rw [this]
  have h4 : (l.take (lenL l) ++ m).length = l.length + k := by
    rw [List.length_append, hl, hk, List.length_drop]
    have := lenL_le l; omega
  rw [h4]
/-- **A GAP IN FRONT OF TOKEN i** (or behind the last one, outside of a comment): the tokens up to there move by its length, those behind stay. -/
theorem gap_toks : ∀ (i : Nat) (l : List UInt8) (ts : List RTok), Toks (skipL false l) ts → i ≤ ts.length →
    ∃ u v b, l = u ++ v ∧ v.length = ((ts[i]?).map (·.2.2)).getD 0 ∧ (v ≠ [] → okL v = true) ∧ (i < ts.length → v ≠ [] ∧ b = false) ∧
      (∀ g, Gap g → b = false → Toks (skipL false (u ++ g ++ v)) ((ts.take i).map (shiftR g.length) ++ ts.drop i)) ∧
      Toks (skipL false u) ((ts.take i).map fun t => (t.1, t.2.1, t.2.2 - v.length)) ∧ (∃ w x, u = x ++ w ∧ stL false w = some b ∧ (i = 0 → x = []) ∧ (∀ j, i = j + 1 → ∃ t, ts[j]? = some t ∧ x.length + t.2.2 = l.length + t.2.1.length)) := by
  intro i
  induction i with
  | zero =>
    intro l ts ht hi
    obtain ⟨w, b, e, hs, hn⟩ := skip_split l false
    have hv : (skipL false l).length = ((ts[0]?).map (·.2.2)).getD 0 := by
      generalize hsk : skipL false l = v at ht
      cases ht with
      | nil => rfl
      | cons ho _ => rfl
    have hok : skipL false l ≠ [] → okL (skipL false l) = true := by
      generalize skipL false l = v at ht
      cases ht with
      | nil => exact fun h => absurd rfl h
      | cons ho _ => exact fun _ => ho
    have hlt : 0 < ts.length → skipL false l ≠ [] ∧ b = false := by
      intro h
      have : skipL false l ≠ [] := by
        intro e2; rw [e2] at ht
        cases ht with
        | nil => simp at h
        | cons ho _ => exact ok_ne ho rfl
      exact ⟨this, hn this⟩
    refine ⟨w, skipL false l, b, e, hv, hok, hlt, ?_, ?_, w, [], rfl, hs, fun _ => rfl, fun j h => by omega⟩
    · intro g hg hb
      subst hb
      rw [List.append_assoc, skip_app w false false _ hs, hg.skip, skip_idem]
      simpa using ht
    · rw [skip_all w false b hs]; simpa using Toks.nil
  | succ i ih =>
    intro l ts ht hi
    obtain ⟨w0, b0, e0, hs0, hn0⟩ := skip_split l false
    generalize hsk : skipL false l = l1 at ht e0 hn0
    cases ht with
    | nil => simp at hi
    | cons ho ht2 =>
      rename_i ts
      have hb0 : b0 = false := hn0 (ok_ne ho)
      subst hb0
      obtain ⟨u, v, b, e, hv, hok, hlt, hg, hp, w, x, hux, hst, hx0, hxs⟩ := ih (l1.drop (lenL l1)) ts ht2 (by simpa using hi)
      have hl1 : l1 = l1.take (lenL l1) ++ (u ++ v) := by rw [← e, List.take_append_drop]
      have hlen : (l1.take (lenL l1)).length = lenL l1 := by rw [List.length_take]; have := lenL_le l1; omega
      have hne : l1.take (lenL l1) ≠ [] := by intro e2; rw [e2] at hlen; exact ok_len ho hlen.symm
      have hl : l = w0 ++ l1.take (lenL l1) ++ u ++ v := by rw [List.append_assoc, List.append_assoc, ← hl1]; exact e0
      -- the head of what stands behind the token
      have hbrk : ∀ m : List UInt8, (∀ c r, u = c :: r → ∃ r2, m = c :: r2) → (u = [] → ∀ c r, m = c :: r → blankB c = true ∨ ∃ r2, v = c :: r2) → Brk (l1.drop (lenL l1)) m := by
        intro m h1 h2 c r hm
        rw [e]
        cases hu : u with
        | cons d r3 =>
          obtain ⟨r2, h4⟩ := h1 d r3 hu
          rw [hm] at h4
          obtain ⟨rfl, _⟩ := List.cons.inj h4
          by_cases hb : blankB c = true
          · exact .inl hb
          · refine .inr ⟨?_, r3 ++ v, rfl⟩
            rintro rfl
            rw [e, hu, List.cons_append, skip_head 46 _ (by decide) (by decide)] at ht2
            cases ht2 with
            | cons ho2 _ => exact (head_ok _ _ ho2).2.2 rfl
        | nil =>
          rcases h2 hu c r hm with h | ⟨r2, h⟩
          · exact .inl h
          · refine .inr ⟨?_, r2, by rw [h]; rfl⟩
            rintro rfl
            have := hok (by rw [h]; simp)
            rw [h] at this
            exact (head_ok _ _ this).2.2 rfl
      refine ⟨w0 ++ l1.take (lenL l1) ++ u, v, b, hl, by simpa using hv, hok, fun h => hlt (by simpa using h), ?_, ?_, w, w0 ++ l1.take (lenL l1) ++ x, by rw [hux]; simp, hst, fun h => by omega, ?_⟩
      · intro g hgap hb
        have hm := hbrk (u ++ g ++ v) (fun c r h => ⟨r ++ g ++ v, by rw [h]; rfl⟩) (fun h c r hm => by
          rw [h, List.nil_append] at hm
          cases g with
          | nil => exact .inr ⟨r, hm⟩
          | cons d g => rw [List.cons_append] at hm; obtain ⟨rfl, _⟩ := List.cons.inj hm; exact .inl (hgap.head _ _ rfl))
        have hk : (u ++ g ++ v).length = (l1.drop (lenL l1)).length + g.length := by rw [e]; simp; omega
        obtain ⟨h1, h2, h3⟩ := tok_same l1 (u ++ g ++ v) ho hm
        have e2 : w0 ++ l1.take (lenL l1) ++ u ++ g ++ v = w0 ++ (l1.take (lenL l1) ++ (u ++ g ++ v)) := by simp
        rw [e2, skip_app w0 false false _ hs0]
        have := skip_ok (l1.take (lenL l1) ++ (u ++ g ++ v)) [] h1
        rw [List.append_nil] at this
        rw [this]
        simp only [List.take_succ_cons, List.map_cons, List.cons_append, List.drop_succ_cons]
        rw [← tokL_same l1 (u ++ g ++ v) ho hm g.length hk]
        refine .cons h1 ?_
        rw [h2, List.drop_left' hlen]
        exact hg g hgap hb
      · have hm := hbrk u (fun c r h => ⟨r, h⟩) (fun h c r hm => by rw [h] at hm; cases hm)
        obtain ⟨h1, h2, h3⟩ := tok_same l1 u ho hm
        have e2 : w0 ++ l1.take (lenL l1) ++ u = w0 ++ (l1.take (lenL l1) ++ u) := by simp
        rw [e2, skip_app w0 false false _ hs0]
        have := skip_ok (l1.take (lenL l1) ++ u) [] h1
        rw [List.append_nil] at this
        rw [this]
        simp only [List.take_succ_cons, List.map_cons]
        have htl : tokL (l1.take (lenL l1) ++ u) = ((tokL l1).1, (tokL l1).2.1, (tokL l1).2.2 - v.length) := by
          unfold tokL
          rw [h2, h3, List.take_left' hlen]
          have h5 : (l1.take (lenL l1) ++ u).length = l1.length - v.length := by
            have := congrArg List.length hl1
            simp only [List.length_append] at this ⊢
            omega
          rw [h5]
        rw [← htl]
        refine .cons h1 ?_
        rw [h2, List.drop_left' hlen]
        exact hp
      · intro j hj
        obtain rfl : i = j := by omega
        have hll := congrArg List.length hl
        simp only [List.length_append] at hll
        have hl1l := congrArg List.length hl1
        simp only [List.length_append] at hl1l
        cases i with
        | zero =>
          refine ⟨tokL l1, rfl, ?_⟩
          rw [hx0 rfl]
          simp only [tokL, List.length_append, List.length_nil, hlen]
          omega
        | succ i =>
          obtain ⟨t, h1, h2⟩ := hxs i rfl
          refine ⟨t, by simpa using h1, ?_⟩
          have hdl : (l1.drop (lenL l1)).length = u.length + v.length := by rw [e]; simp
          simp only [List.length_append]
          omega
end Go.Proofs.YtjhinmdnabmdoaaDoor.Lex
