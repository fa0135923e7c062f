/- lex.space: what it skips, and its contract. -/
import Derived.Test.YtjhinmdnabmdoaaDoorLexB
import Derived.Test.YtjhinmdnabmdoaaDoorShelf
set_option linter.unusedVariables false
set_option linter.unusedSimpArgs false
namespace Go.Proofs.YtjhinmdnabmdoaaDoor.Lex
open Go.RowKit

def blankB (c : UInt8) : Bool := c == 9 || c == 10 || c == 13 || c == 32
/-- What is left when white space and comments are skipped; true: within a comment. -/
def skipL : Bool → List UInt8 → List UInt8
  | _, [] => []
  | false, c :: l => if blankB c then skipL false l else if c == 35 then skipL true l else c :: l
  | true, c :: l => if c == 10 then skipL false l else skipL true l

def strLen : Value → Nat
  | .string s => s.size
  | _ => 0

theorem skip_length (b : Bool) (l : List UInt8) : (skipL b l).length ≤ l.length := by
  induction l generalizing b with
  | nil => cases b <;> simp [skipL]
  | cons c l ih =>
    cases b <;> simp only [skipL]
    · split
      · exact Nat.le_trans (ih _) (by simp)
      · split
        · exact Nat.le_trans (ih _) (by simp)
        · exact Nat.le_refl _
    · split <;> exact Nat.le_trans (ih _) (by simp)

def blanks : List UInt8 := [32, 9, 13, 10]
theorem blank_mem (c : UInt8) : blanks.contains c = blankB c := by
  simp only [blanks, blankB, List.contains_cons, List.contains_nil, Bool.or_false]
  cases c == 32 <;> cases c == 9 <;> cases c == 13 <;> cases c == 10 <;> rfl
theorem skip_trim (l : List UInt8) : skipL false (Lib.trimLeftS l blanks) = skipL false l := by
  unfold Lib.trimLeftS
  induction l with
  | nil => rfl
  | cons c l ih =>
    rw [List.dropWhile_cons]
    split
    · rename_i h; rw [ih, skipL]; rw [blank_mem] at h; simp [h]
    · rfl

theorem trim_drop (l : List UInt8) (k : Nat) : ∃ j, k ≤ j ∧ (k ≤ l.length → j ≤ l.length) ∧ Lib.trimLeftS (l.drop k) blanks = l.drop j := by
  unfold Lib.trimLeftS
  generalize hm : l.drop k = m
  induction m generalizing k with
  | nil =>
    refine ⟨k, Nat.le_refl _, id, by simp [hm]⟩
  | cons c m ih =>
    rw [List.dropWhile_cons]
    split
    · have hl : k < l.length := by
        rcases Nat.lt_or_ge k l.length with h | h
        · exact h
        · rw [List.drop_eq_nil_of_le h] at hm; cases hm
      obtain ⟨j, h1, h2, h3⟩ := ih (k + 1) (by rw [← List.drop_drop, hm]; rfl)
      exact ⟨j, by omega, fun _ => h2 (by omega), h3⟩
    · exact ⟨k, Nat.le_refl _, id, hm.symm⟩
/-- Behind the skipping: no white space and no comment begins. -/
theorem trim_head (l : List UInt8) (c : UInt8) (m : List UInt8) (h : Lib.trimLeftS l blanks = c :: m) : blankB c = false := by
  unfold Lib.trimLeftS at h
  have := List.head?_dropWhile_not (fun x => blanks.contains x) l
  rw [h] at this
  rw [← blank_mem]; simpa using this

theorem skip_true_some : ∀ (l : List UInt8) (o : Nat), Lib.indexByte l 10 = o → skipL true l = skipL false (l.drop o) := by
  intro l
  induction l with
  | nil => intro o h; cases o <;> simp [skipL]
  | cons c l ih =>
    intro o h
    simp only [Lib.indexByte] at h
    by_cases hc : (c == 10) = true
    · rw [if_pos hc] at h
      obtain rfl : o = 0 := by omega
      have : blankB c = true := by simp at hc; subst hc; rfl
      simp [skipL, hc, this]
    · rw [if_neg hc] at h
      by_cases h2 : (Lib.indexByte l 10 == -1) = true
      · rw [if_pos h2] at h; omega
      · rw [if_neg h2] at h
        cases o with
        | zero => have := Lib.indexByte_ge l 10; simp at h2; omega
        | succ o =>
          rw [List.drop_succ_cons, ← ih o (by omega)]
          simp only [skipL]; rw [if_neg hc]
theorem skip_true_none : ∀ (l : List UInt8), Lib.indexByte l 10 = -1 → skipL true l = [] := by
  intro l
  induction l with
  | nil => intro _; simp [skipL]
  | cons c l ih =>
    intro h
    simp only [Lib.indexByte] at h
    by_cases hc : (c == 10) = true
    · rw [if_pos hc] at h; omega
    · rw [if_neg hc] at h
      by_cases h2 : (Lib.indexByte l 10 == -1) = true
      · simp at h2; simp only [skipL]; rw [if_neg hc]; exact ih h2
      · rw [if_neg h2] at h; have := Lib.indexByte_ge l 10; simp at h2; omega
theorem skip_hash (l : List UInt8) (m : List UInt8) (h : l = 35 :: m) : skipL false l = skipL true l := by
  subst h; simp [skipL, blankB]
/-- Neither white space nor '#': nothing is skipped. -/
theorem skip_stop (l : List UInt8) (h : ∀ c m, l = c :: m → blankB c = false ∧ c ≠ 35) : skipL false l = l := by
  cases l with
  | nil => rfl
  | cons c m =>
    obtain ⟨h1, h2⟩ := h c m rfl
    simp [skipL, h1, h2]


theorem size_list (t : ByteArray) : t.size = t.data.toList.length := by unfold ByteArray.size; exact (Array.length_toList).symm
theorem toList_data (t : ByteArray) : t.toList = t.data.toList := Lib.toList_data t
theorem extract_list (t : ByteArray) (a b : Nat) : (t.extract a b).data.toList = (t.data.toList.drop a).take (b - a) := Lib.extract_data t a b
theorem list_drop (s : ByteArray) (k : Nat) : (s.extract k s.size).data.toList = s.data.toList.drop k := by
  rw [extract_list, List.take_of_length_le (by rw [List.length_drop, size_list]; exact Nat.le_refl _)]

theorem hpB_iff (s t : ByteArray) : hpB s t = true ↔ t.data.toList <+: s.data.toList := by
  unfold hpB
  rw [Bool.and_eq_true, decide_eq_true_iff, beq_iff_eq, toList_data, toList_data, extract_list, size_list, size_list]
  simp only [List.drop_zero, Nat.sub_zero]
  rw [List.prefix_iff_eq_take]
  constructor
  · rintro ⟨_, h⟩; exact h.symm
  · intro h; exact ⟨by have := congrArg List.length h; rw [List.length_take] at this; omega, h.symm⟩
theorem hash_list (t : ByteArray) : hpB t ⟨#[35]⟩ = true ↔ ∃ m, t.data.toList = 35 :: m := by
  rw [hpB_iff]
  constructor
  · rintro ⟨m, h⟩; exact ⟨m, h.symm⟩
  · rintro ⟨m, h⟩; exact ⟨m, h.symm⟩

def trimB (r : ByteArray) : ByteArray := ⟨(Lib.trimLeftS r.data.toList blanks).toArray⟩
theorem trimB_list (r : ByteArray) : (trimB r).data.toList = Lib.trimLeftS r.data.toList blanks := by simp [trimB]
theorem trim_calls (r : ByteArray) (w : World) : Calls Tryd.prog 33 #[.string r, .string ⟨#[32, 9, 13, 10]⟩] w fun e w' => e = .returned (.string (trimB r)) ∧ Below w.heap.size w w' :=
  Tryd.strings_TrimLeft_laid r ⟨#[32, 9, 13, 10]⟩ w (by decide) (by
    intro j b h
    have : b ∈ ([32, 9, 13, 10] : List UInt8) := List.mem_of_getElem? h
    simp at this
    rcases this with rfl | rfl | rfl | rfl <;> decide)
def nlAt (r : ByteArray) : Int := Lib.indexByte r.data.toList 10
theorem index_calls (r : ByteArray) (w : World) : Calls Tryd.prog 35 #[.string r, .int .u8 10] w fun e w' => e = .returned (.int .i64 (nlAt r)) ∧ w' = w :=
  Tryd.strings_IndexByte r 10 w

theorem indexByte_lt : ∀ (l : List UInt8) (c : UInt8), Lib.indexByte l c < l.length := by
  intro l c
  induction l with
  | nil => simp [Lib.indexByte]
  | cons b l ih =>
    simp only [Lib.indexByte, List.length_cons]
    split
    · omega
    · split <;> omega

/-- One round of space: from r on, the trimmed string t. -/
structure Trimmed (s r t : ByteArray) (j : Nat) : Prop where
  le : j ≤ s.size
  eq : t.data.toList = s.data.toList.drop j
  skip : skipL false t.data.toList = skipL false s.data.toList
  size : t.size ≤ r.size
  head : ∀ c m, t.data.toList = c :: m → blankB c = false
theorem trimmed (s r : ByteArray) (k : Nat) (hk : k ≤ s.size) (h : r.data.toList = s.data.toList.drop k) (h2 : skipL false r.data.toList = skipL false s.data.toList) :
    ∃ j, Trimmed s r (trimB r) j := by
  obtain ⟨j, h3, h4, h5⟩ := trim_drop s.data.toList k
  refine ⟨j, h4 (by rw [← size_list]; exact hk) |> fun h => by rw [size_list]; exact h, by rw [trimB_list, h, h5], by rw [trimB_list, skip_trim, h2], ?_, ?_⟩
  · rw [size_list, trimB_list, size_list r]; exact (List.dropWhile_sublist _).length_le
  · intro c m hm; rw [trimB_list] at hm; exact trim_head _ _ _ hm

set_option maxHeartbeats 400000 in
theorem space_calls (s : ByteArray) (hs : s.size ≤ maxLen) (w : World) :
    Calls Tryd.prog 21 #[.string s] w fun e w' => e = .returned (.int .i64 (s.size - (skipL false s.data.toList).length)) ∧ Below w.heap.size w w' := by
  unfold maxLen at hs
  go_enter Tryd.func21, Tryd.ntmps21
  go_wp2_with fail
  go_loopw [3] (fun v wr => ∃ (r : ByteArray) (k : Nat), v = .string r ∧ k ≤ s.size ∧ r.size ≤ s.size ∧ Hid (r.data.toList = s.data.toList.drop k) ∧ Hid (skipL false r.data.toList = skipL false s.data.toList) ∧ Below w.heap.size w wr) (fun v wr => strLen v)
  case atStart => exact ⟨s, 0, rfl, Nat.zero_le _, Nat.le_refl _, rfl, rfl, Below.refl _ _⟩
  case round =>
    obtain ⟨r, k, rfl, hk, hrs, HD, HS, hB⟩ := hrel
    have HX := trimmed s r k hk HD.out HS.out
    have HT := trim_calls r wr
    generalize trimB r = t at HX HT
    obtain ⟨j, HT2⟩ := HX
    have HX := Lib.hid HT2; clear HT2
    have HT1 := Lib.hid HT; clear HT
    have ht := HX.out.size
    cases hh : hpB t ⟨#[35]⟩
    · have H1 := Lib.hid hh; clear hh
      go_wp2_with (first | (go_at_call 33; refine HT1.out.mono ?_; rintro e w1 ⟨rfl, hb1⟩) | (go_at_call 34; refine (hasPrefix_calls _ _ (by unfold maxLen; omega) (by decide) _).mono ?_; rw [H1.out]; rintro e w' ⟨rfl, rfl⟩))
      go_ret
      refine ⟨ret_int ?_, hB.trans (hb1.mono hB.size)⟩
      have h1 := HX.out.skip
      rw [skip_stop t.data.toList] at h1
      · rw [← h1, ← size_list]
      · intro c m hm
        refine ⟨HX.out.head c m hm, ?_⟩
        rintro rfl
        have := (hash_list t).2 ⟨m, hm⟩
        rw [H1.out] at this; cases this
    · have hm := (hash_list t).1 hh
      have hpos : 1 ≤ t.size := by obtain ⟨m, hm⟩ := hm; rw [size_list, hm]; simp
      have hsk : skipL true t.data.toList = skipL false s.data.toList := by
        obtain ⟨m, hm⟩ := hm; rw [← HX.out.skip]; exact (skip_hash _ _ hm).symm
      have hne : nlAt t ≠ 0 := by
        obtain ⟨m, hm⟩ := hm; unfold nlAt; rw [hm]; simp only [Lib.indexByte]; intro h; simp at h; split at h <;> have := Lib.indexByte_ge m 10 <;> simp_all <;> omega
      have hlt : nlAt t < t.size := by rw [size_list]; exact indexByte_lt _ _
      have H1 := Lib.hid hh; clear hh
      have H2 := Lib.hid hsk; clear hsk hm
      by_cases hn : 0 ≤ nlAt t
      · obtain ⟨o, ho⟩ := Int.eq_ofNat_of_zero_le hn
        have HO := Lib.hid ho
        have ho1 : 1 ≤ o := by omega
        have ho2 : o < t.size := by omega
        have H3 : Hid (skipL false (t.data.toList.drop o) = skipL false s.data.toList) := by
          show _ = _
          rw [← skip_true_some _ o (by have := ho; unfold nlAt at this; exact this)]; exact H2.out
        clear ho hn hne hlt
        go_wp2_with (first | (go_at_call 33; refine HT1.out.mono ?_; rintro e w1 ⟨rfl, hb1⟩) | (go_at_call 34; refine (hasPrefix_calls _ _ (by unfold maxLen; omega) (by decide) _).mono ?_; rw [H1.out]; rintro e w' ⟨rfl, rfl⟩) | (go_at_call 35; refine (index_calls _ _).mono ?_; rw [HO.out]; rintro e w2 ⟨rfl, rfl⟩))
        go_roundw
        case rel =>
          refine ⟨t.extract o t.size, j + o, rfl, ?_, by simp; omega, ?_, ?_, hB.trans (hb1.mono hB.size)⟩
          · have h1 := HX.out.eq; have h2 := congrArg List.length h1
            rw [← size_list, List.length_drop, ← size_list] at h2; omega
          · show _ = _
            rw [list_drop, HX.out.eq, List.drop_drop]
          · show _ = _
            rw [list_drop, H3.out]
        case measure => simp [strLen]; omega
      · have hn1 : nlAt t = -1 := by have := Lib.indexByte_ge t.data.toList 10; unfold nlAt at hn ⊢; omega
        have HO := Lib.hid hn1
        have H3 : Hid ([] = skipL false s.data.toList) := by
          show _ = _
          rw [← H2.out, skip_true_none _ hn1]
        clear hn1 hn hne hlt
        go_wp2_with (first | (go_at_call 33; refine HT1.out.mono ?_; rintro e w1 ⟨rfl, hb1⟩) | (go_at_call 34; refine (hasPrefix_calls _ _ (by unfold maxLen; omega) (by decide) _).mono ?_; rw [H1.out]; rintro e w' ⟨rfl, rfl⟩) | (go_at_call 35; refine (index_calls _ _).mono ?_; rw [HO.out]; rintro e w2 ⟨rfl, rfl⟩))
        go_roundw
        case rel =>
          refine ⟨⟨#[]⟩, s.size, rfl, Nat.le_refl _, Nat.zero_le _, ?_, ?_, hB.trans (hb1.mono hB.size)⟩
          · show _ = _
            rw [List.drop_eq_nil_of_le (by rw [size_list]; exact Nat.le_refl _)]
          · show _ = _
            exact H3.out
        case measure => show (0 : Nat) < _; simp only [strLen]; omega
end Go.Proofs.YtjhinmdnabmdoaaDoor.Lex
