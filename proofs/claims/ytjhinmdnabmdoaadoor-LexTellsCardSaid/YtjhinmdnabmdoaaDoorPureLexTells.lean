/- LexTells, the plain law. -/
import Derived.Test.YtjhinmdnabmdoaaDoorPLexx5
import Derived.Test.YtjhinmdnabmdoaaDoorPureRef2
import Derived.Lib.Join
set_option linter.unusedVariables false
namespace Go.Proofs.YtjhinmdnabmdoaaDoor.Pure
open Go.RowKit Go.Proofs.YtjhinmdnabmdoaaDoor.PLex Go.Proofs.YtjhinmdnabmdoaaDoorW.PrintWords Go.Proofs.YtjhinmdnabmdoaaDoorW.PrintLast
open PureO (outT outT_len)

theorem rd_get (l : List S32) (i : Nat) (h : i < l.length) : rd_T32 l (i : Int) = l[i] := by
  unfold rd_T32; rw [Int.toNat_natCast, List.getD_eq_getElem?_getD, List.getElem?_eq_getElem h]; rfl
theorem few_l0 (l : List S32) (hl : l.length ≤ 200) : ∀ (d i : Nat), i + d = l.length → (∀ t ∈ l.take i, t.f1.size ≤ 600) → ∀ k, d + 1 ≤ k → ∃ b, bournelaw13_few.l0 k l (i : Int) = some b ∧ (b = true → ∀ t ∈ l, t.f1.size ≤ 600)
  | d, i, h, hp, 0, hk => by omega
  | 0, i, h, hp, k + 1, hk => by
    rw [List.take_of_length_le (by omega)] at hp
    refine ⟨true, ?_, fun _ => hp⟩
    rw [bournelaw13_few.l0, if_neg (by omega)]
  | d + 1, i, h, hp, k + 1, hk => by
    have hi : i < l.length := by omega
    have hw := fun _ : Unit => wr i (by omega)
    rw [bournelaw13_few.l0, if_pos (by omega), if_pos (by omega), rd_get l i hi, hw ()]
    by_cases h6 : (l[i].f1.size : Int) > 600
    · rw [if_pos h6]; exact ⟨false, rfl, fun h => by cases h⟩
    · rw [if_neg h6]
      refine few_l0 l hl d (i + 1) (by omega) ?_ k (by omega)
      intro t ht
      rw [List.take_succ_eq_append_getElem hi, List.mem_append, List.mem_singleton] at ht
      rcases ht with ht | rfl
      · exact hp t ht
      · omega
theorem few_f (l : List S32) (k : Nat) (hk : 300 ≤ k) : ∃ b, bournelaw13_few.f k l = some b ∧ (b = true → l.length ≤ 200 ∧ ∀ t ∈ l, t.f1.size ≤ 600) := by
  unfold bournelaw13_few.f
  by_cases h : (l.length : Int) > 200
  · rw [if_pos h]; exact ⟨false, rfl, fun h => by cases h⟩
  · rw [if_neg h]
    obtain ⟨b, h1, h2⟩ := few_l0 l (by omega) l.length 0 (by omega) (by simp) k (by omega)
    exact ⟨b, h1, fun hb => ⟨by omega, h2 hb⟩⟩

/-- What Write adds to a text. -/
def addW (b : Bool) (ts : List ByteArray) : List UInt8 := if b then Lib.joinTail [32] (ts.map (·.data.toList)) else Lib.join (ts.map (·.data.toList)) [32]
theorem add_one (b : Bool) (t : ByteArray) (ts : List ByteArray) : addW b (t :: ts) = (if b then [32] else []) ++ t.data.toList ++ addW true ts := by
  unfold addW
  cases b with
  | true => rw [if_pos rfl, if_pos rfl, if_pos rfl]; simp [Lib.joinTail]
  | false => rw [if_neg (by decide), if_neg (by decide), if_pos rfl, List.map_cons, Lib.join_cons]; simp
theorem refw_l0 (l : List S32) (hl : l.length ≤ 200) (ht : ∀ t ∈ l, t.f1.size ≤ 600) : ∀ (d i : Nat), i + d = l.length → ∀ (x : ByteArray) (b : Bool), x.size ≤ 700 * i → ∀ k, 2 * d + 1 ≤ k →
    bourneref13_Write.l0 k l x b (i : Int) = some ⟨(x.data.toList ++ addW b (writeT (l.drop i))).toArray⟩
  | 0, i, h, x, b, hx, k, hk => by
    obtain ⟨k, rfl⟩ : ∃ j, k = j + 1 := ⟨k - 1, by omega⟩
    rw [bourneref13_Write.l0, if_neg (by omega), List.drop_of_length_le (by omega)]
    have : addW b (writeT []) = [] := by cases b <;> rfl
    rw [this, List.append_nil]
  | d + 1, i, h, x, b, hx, k, hk => by
    obtain ⟨k, rfl⟩ : ∃ j, k = j + 1 + 1 := ⟨k - 2, by omega⟩
    have hi : i < l.length := by omega
    have hw := fun _ : Unit => wr i (by omega)
    have hsz := ht l[i] (List.getElem_mem hi)
    have ih := fun x' b' hx' => refw_l0 l hl ht d (i + 1) (by omega) x' b' hx' k (by omega)
    have hdr : writeT (l.drop i) = writeT1 l[i] ++ writeT (l.drop (i + 1)) := by
      rw [List.drop_eq_getElem_cons hi]; rfl
    have hs34 : (⟨#[34]⟩ : ByteArray).size = 1 := rfl
    have hs32 : (⟨#[32]⟩ : ByteArray).size = 1 := rfl
    have hplus : ∀ y z : ByteArray, (y ++ z).size = y.size + z.size := fun y z => ByteArray.size_append
    have hadd : ∀ t : ByteArray, writeT1 l[i] = [t] → (if b then ((x ++ (⟨#[32]⟩ : ByteArray)) ++ t) else x ++ t).data.toList ++ addW true (writeT (l.drop (i + 1))) = x.data.toList ++ addW b (writeT (l.drop i)) := by
      intro t h1
      rw [hdr, h1, List.singleton_append, add_one]
      cases b with
      | true => rw [if_pos rfl, if_pos rfl]; simp
      | false => rw [if_neg (by decide), if_neg (by decide)]; simp
    rw [bourneref13_Write.l0, if_pos (by omega), if_pos (by omega), rd_get l i hi]
    by_cases h013 : l[i].f0 = 0 ∨ l[i].f0 = 1 ∨ l[i].f0 = 3
    · have h1 : writeT1 l[i] = [l[i].f1] := by unfold writeT1; rw [if_pos h013]
      have hj : bourneref13_Write.j1 (k + 1) l x b (i : Int) l[i].f1 l[i].f0 true = some ⟨(x.data.toList ++ addW b (writeT (l.drop i))).toArray⟩ := by
        rw [bourneref13_Write.j1, if_pos rfl, hw ()]
        have h2 := hadd _ h1
        cases b with
        | true =>
          rw [if_pos rfl] at h2
          rw [if_pos rfl, if_pos (by omega), if_pos (by rw [hplus]; omega), ih _ _ (by rw [hplus, hplus]; omega), h2]
        | false =>
          rw [if_neg (by decide)] at h2
          rw [if_neg (by decide), if_pos (by omega), ih _ _ (by rw [hplus]; omega), h2]
      by_cases a0 : l[i].f0 = 0
      · rw [if_pos a0, show (l[i].f0 == 0) = true from beq_iff_eq.mpr a0]; exact hj
      · rw [if_neg a0]
        by_cases a1 : l[i].f0 = 1
        · rw [if_pos a1, show (l[i].f0 == 1) = true from beq_iff_eq.mpr a1]; exact hj
        · have a3 : l[i].f0 = 3 := by rcases h013 with h | h | h; exact absurd h a0; exact absurd h a1; exact h
          rw [if_neg a1, show (l[i].f0 == 3) = true from beq_iff_eq.mpr a3]; exact hj
    · have a0 : l[i].f0 ≠ 0 := fun h => h013 (Or.inl h)
      have a1 : l[i].f0 ≠ 1 := fun h => h013 (Or.inr (Or.inl h))
      have a3 : l[i].f0 ≠ 3 := fun h => h013 (Or.inr (Or.inr h))
      rw [if_neg a0, if_neg a1, show (l[i].f0 == 3) = false from beq_eq_false_iff_ne.mpr a3, bourneref13_Write.j1, if_neg (by decide), hw ()]
      by_cases a2 : l[i].f0 = 2
      · have h1 : writeT1 l[i] = [(⟨#[34]⟩ : ByteArray) ++ l[i].f1 ++ (⟨#[34]⟩ : ByteArray)] := by unfold writeT1; rw [if_neg h013, if_pos a2]
        have h2 := hadd _ h1
        rw [if_pos a2, if_pos (by omega), if_pos (by rw [hplus]; omega)]
        cases b with
        | true =>
          rw [if_pos rfl] at h2
          rw [if_pos rfl, if_pos (by omega), if_pos (by simp only [hplus]; omega), ih _ _ (by simp only [hplus]; omega), h2]
        | false =>
          rw [if_neg (by decide)] at h2
          rw [if_neg (by decide), if_pos (by simp only [hplus]; omega), ih _ _ (by simp only [hplus]; omega), h2]
      · have h1 : writeT1 l[i] = [] := by unfold writeT1; rw [if_neg h013, if_neg a2]
        rw [if_neg a2, ih _ _ (by omega), hdr, h1]
        rfl
theorem texts_len (l : List S32) (ht : ∀ t ∈ l, t.f1.size ≤ 600) : Lib.lens ((writeT l).map (·.data.toList)) ≤ 602 * l.length := by
  induction l with
  | nil => simp [writeT, Lib.lens]
  | cons t l ih =>
    have h1 := ih fun u hu => ht u (List.mem_cons_of_mem _ hu)
    have h2 := ht t List.mem_cons_self
    have e : writeT (t :: l) = writeT1 t ++ writeT l := rfl
    have h3 : ∀ x : ByteArray, x.data.toList.length = x.size := fun _ => rfl
    rw [e]
    unfold writeT1
    split
    · simp only [List.singleton_append, List.map_cons, Lib.lens, List.length_cons, List.sum_cons, h3] at h1 ⊢; omega
    · split
      · simp only [List.singleton_append, List.map_cons, Lib.lens, List.length_cons, List.sum_cons, h3, ByteArray.size_append] at h1 ⊢
        have hs34 : (⟨#[34]⟩ : ByteArray).size = 1 := rfl
        omega
      · simp only [List.nil_append, List.length_cons] at h1 ⊢; omega
theorem join_len (l : List ByteArray) : (Lib.join (l.map (·.data.toList)) [32]).length ≤ l.length + Lib.lens (l.map (·.data.toList)) := by
  cases l with
  | nil => simp [Lib.join_nil]
  | cons x l =>
    rw [List.map_cons, Lib.join_length]
    simp
theorem write_both (l : List S32) (hl : l.length ≤ 200) (ht : ∀ t ∈ l, t.f1.size ≤ 600) (k : Nat) (hk : 1000 ≤ k) : ∃ x, lex_Write.f k l = some x ∧ bourneref13_Write.f k l = some x := by
  have h1 := texts_len l ht
  have h2 := writeT_len l
  have h3 := join_len (writeT l)
  refine ⟨_, (write_f l (by omega) (fun t hm => by have := ht t hm; omega) k (by omega)).trans (join_f _ (by omega) (by omega)), ?_⟩
  unfold bourneref13_Write.f
  have h4 := refw_l0 l hl ht l.length 0 (by omega) ⟨#[]⟩ false (by decide) k (by omega)
  refine h4.trans ?_
  rfl

theorem LexTells (a0 : ByteArray) (l1 : List S32) : ∃ k, bournelaw13_LexTells.f k a0 l1 = some true := by
  refine ⟨800000 + 1, ?_⟩
  unfold bournelaw13_LexTells.f
  rw [small_ok _ (by omega), Option.bind_some]
  have hj : ∀ b, (b = false → a0.size ≤ 4000 ∧ l1.length ≤ 200 ∧ ∀ t ∈ l1, t.f1.size ≤ 600) → bournelaw13_LexTells.j0 (800000 + 1) a0 l1 true b = some true := by
    intro b hb
    cases b with
    | true => rw [bournelaw13_LexTells.j0, if_pos rfl]
    | false =>
      obtain ⟨h1, h2, h3⟩ := hb rfl
      obtain ⟨x, hx1, hx2⟩ := write_both l1 h2 h3 800000 (by omega)
      have hsame : ∀ l : List S32, l.length ≤ 10000 → bourneref13_Same.f 800000 l l true = some true := fun l hl => same_f true l l rfl (by omega) 800000 (by omega)
      rw [bournelaw13_LexTells.j0, if_neg (by decide), ref_scan_f a0 (by omega) 800000 (by omega)]
      rcases Lex.scanV_cases a0 (by omega) with ⟨ts, hts, _⟩ | ⟨r, hf, _⟩
      · have hln := hts.len
        have hsk := Lex.skip_length false a0.data.toList
        have hsz : a0.data.toList.length = a0.size := rfl
        have hsc : lex_Scan.f a0 = some (outT a0.size a0 ts, 0, 0) := scan_toks a0 (by omega) ts hts
        rw [hsc, Option.bind_some, Option.bind_some]
        dsimp only
        rw [if_pos rfl, if_pos rfl, if_pos rfl, hsame _ (by rw [outT_len]; omega), Option.bind_some, if_pos rfl, hx1, hx2, Option.bind_some, Option.bind_some, beq_self_eq_true]
      · rw [scan_fails a0 (by omega) r hf, Option.bind_some, Option.bind_some]
        dsimp only
        rw [if_pos rfl, if_pos rfl, if_pos rfl, hsame _ (by simp), Option.bind_some, if_pos rfl, hx1, hx2, Option.bind_some, Option.bind_some, beq_self_eq_true]
  obtain ⟨b, hb, hbt⟩ := few_f l1 (800000 + 1) (by omega)
  split
  · exact hj true (fun h => by cases h)
  · rw [hb, Option.bind_some]
    refine hj _ fun h => ?_
    have : b = true := by simpa using h
    obtain ⟨h1, h2⟩ := hbt this
    exact ⟨by omega, h1, h2⟩
end Go.Proofs.YtjhinmdnabmdoaaDoor.Pure
