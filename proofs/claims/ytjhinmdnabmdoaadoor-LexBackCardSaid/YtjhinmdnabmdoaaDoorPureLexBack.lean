/- LexBack, the plain law. -/
import Derived.Test.YtjhinmdnabmdoaaDoorPLexx6
import Derived.Test.YtjhinmdnabmdoaaDoorPureCom
import Derived.Test.YtjhinmdnabmdoaaDoorLexW
set_option linter.unusedVariables false
namespace Go.Proofs.YtjhinmdnabmdoaaDoor.Pure
open Go.RowKit Go.Proofs.YtjhinmdnabmdoaaDoor.PLex Go.Proofs.YtjhinmdnabmdoaaDoorW.PrintWords Go.Proofs.YtjhinmdnabmdoaaDoorW.PrintLast
open Lex (Tok RTok Toks Fails scanV mkTok endTok skipL okL lenL kindL textL tokL fails_split GoodR toks_good toks_join rawsJ)

/-- The tokens of a source, as Scan returns them. -/
def outT (n : Nat) (s : ByteArray) (ts : List RTok) : List S32 := (ts.map (mkTok n) ++ [endTok s]).map toTok
theorem outT_len (n : Nat) (s : ByteArray) (ts : List RTok) : (outT n s ts).length = ts.length + 1 := by simp [outT]
theorem outT_at (n : Nat) (s : ByteArray) (pre : List RTok) (t : RTok) (ts : List RTok) : rd_T32 (outT n s (pre ++ t :: ts)) (pre.length : Int) = toTok (mkTok n t) := by
  unfold rd_T32 outT
  rw [Int.toNat_natCast, List.getD_eq_getElem?_getD]
  simp
theorem outT_end (n : Nat) (s : ByteArray) (ts : List RTok) : rd_T32 (outT n s ts) (ts.length : Int) = toTok (endTok s) := by
  unfold rd_T32 outT
  rw [Int.toNat_natCast, List.getD_eq_getElem?_getD]
  simp

theorem write1 (n : Nat) (t : RTok) (h : GoodR t) : writeT1 (toTok (mkTok n t)) = [⟨t.2.1.toArray⟩] := by
  have e0 : (toTok (mkTok n t)).f0 = t.1 := rfl
  have e1 : (toTok (mkTok n t)).f1 = ⟨(textL t.1 t.2.1).toArray⟩ := rfl
  unfold writeT1
  rw [e0, e1]
  rcases h.kind with h1 | h1 | h1 | h1
  · rw [if_pos (Or.inl h1)]; unfold textL; rw [if_neg (by omega)]
  · rw [if_pos (Or.inr (Or.inl h1))]; unfold textL; rw [if_neg (by omega)]
  · rw [if_neg (by omega), if_pos h1]
    congr 1
    apply ByteArray.ext
    apply Array.toList_inj.1
    have h2 := h.two h1
    rw [h1]
    conv => rhs; rw [show (⟨t.2.1.toArray⟩ : ByteArray).data.toList = t.2.1 from rfl, h2]
    simp
  · rw [if_pos (Or.inr (Or.inr h1))]; unfold textL; rw [if_neg (by omega)]
theorem write_out (n : Nat) (s : ByteArray) : ∀ ts : List RTok, (∀ t ∈ ts, GoodR t) → writeT (outT n s ts) = ts.map fun t => ⟨t.2.1.toArray⟩
  | [], _ => by simp [outT, writeT, writeT1, endTok, toTok]
  | t :: ts, h => by
    have ih := write_out n s ts fun u hu => h u (List.mem_cons_of_mem _ hu)
    have e : outT n s (t :: ts) = toTok (mkTok n t) :: outT n s ts := rfl
    rw [e]
    unfold writeT at ih ⊢
    rw [List.flatMap_cons, ih, write1 n t (h t List.mem_cons_self)]
    rfl
theorem join_out (ts : List RTok) : Lib.join ((ts.map fun t => (⟨t.2.1.toArray⟩ : ByteArray)).map (·.data.toList)) [32] = rawsJ ts := by
  unfold rawsJ; rw [List.map_map]; rfl

theorem text_le (k : Int) (raw : List UInt8) : (textL k raw).length ≤ raw.length := by
  unfold textL; split <;> simp <;> omega
theorem toks_small {l : List UInt8} {ts : List RTok} (h : Toks l ts) : ∀ t ∈ ts, t.2.1.length ≤ l.length := by
  induction h with
  | nil => intro t ht; cases ht
  | @cons l ts ho _ ih =>
    have hs := Lex.skip_length false (l.drop (lenL l))
    rw [List.length_drop] at hs
    intro t ht
    rcases List.mem_cons.1 ht with rfl | ht
    · show (l.take (lenL l)).length ≤ _; rw [List.length_take]; omega
    · have := ih t ht; omega
/-- Write returns the joined bytes. -/
theorem write_toks (s : ByteArray) (hs : s.size ≤ 60000) (ts : List RTok) (h : Toks (skipL false s.data.toList) ts) (k : Nat) (hk : 200000 ≤ k) :
    lex_Write.f k (outT s.size s ts) = some ⟨(rawsJ ts).toArray⟩ := by
  have h1 := h.len
  have h2 := Lex.skip_length false s.data.toList
  have h3 : s.data.toList.length = s.size := rfl
  have h4 := (toks_join h).2
  have hsz : ∀ t ∈ outT s.size s ts, t.f1.size < 1000000 := by
    intro t ht
    unfold outT at ht
    rw [List.mem_map] at ht
    obtain ⟨u, hu, rfl⟩ := ht
    rw [List.mem_append] at hu
    rcases hu with hu | hu
    · rw [List.mem_map] at hu
      obtain ⟨v, hv, rfl⟩ := hu
      have h5 := toks_small h v hv
      have h6 := text_le v.1 v.2.1
      show (textL v.1 v.2.1).length < _
      omega
    · rw [List.mem_singleton] at hu
      subst hu
      show (0 : Nat) < _
      omega
  rw [write_f _ (by rw [outT_len]; omega) hsz k (by rw [outT_len]; omega), write_out _ _ ts (toks_good h),
    join_f _ (by simp; omega) (by rw [join_out]; omega), join_out]
theorem same_toks (n m : Nat) (s t : ByteArray) : ∀ (ts us : List RTok), us.map (fun t => (t.1, t.2.1)) = ts.map (fun t => (t.1, t.2.1)) → (outT n s ts).map (keyT false) = (outT m t us).map (keyT false)
  | [], [], _ => by simp [outT, keyT, toTok, endTok]
  | [], _ :: _, h => by simp at h
  | _ :: _, [], h => by simp at h
  | a :: ts, b :: us, h => by
    simp only [List.map_cons, List.cons.injEq, Prod.mk.injEq] at h
    have ih := same_toks n m s t ts us h.2
    show keyT false (toTok (mkTok n a)) :: (outT n s ts).map (keyT false) = keyT false (toTok (mkTok m b)) :: (outT m t us).map (keyT false)
    rw [ih]
    congr 1
    simp [keyT, toTok, mkTok, h.1.1, h.1.2]

/-- A gap has no token but the end. -/
theorem gap_scan (g : ByteArray) (hg : g.size ≤ 65536) (h : skipL false g.data.toList = []) : lex_Scan.f g = some ([toTok (endTok g)], 0, 0) := by
  have := scan_toks g hg [] (by rw [h]; exact .nil)
  exact this

theorem back_l0 (s : ByteArray) (hs : s.size ≤ 4000) : ∀ (ts pre : List RTok) (e : Nat), e ≤ s.size → pre.length + ts.length ≤ 4000 → Toks (skipL false (s.data.toList.drop e)) ts → ∀ k, 3 * (ts.length + 1) + 1 ≤ k →
    bournelaw13_LexBack.l0 k s true (outT s.size s (pre ++ ts)) (e : Int) (pre.length : Int) = some true := by
  have hsl : s.data.toList.length = s.size := rfl
  intro ts
  induction ts with
  | nil =>
    intro pre e he hpl h k hk
    obtain ⟨k, rfl⟩ : ∃ j, k = j + 1 + 1 + 1 + 1 := ⟨k - 4, by simp at hk; omega⟩
    have hv := Lex.toks_nil h
    rw [List.append_nil]
    have hat : ∀ _u : Unit, rd_T32 (outT s.size s pre) (pre.length : Int) = toTok (endTok s) := fun _ => outT_end _ _ _
    have f0 : ∀ _u : Unit, (toTok (endTok s)).f0 = 4 := fun _ => rfl
    have f1 : ∀ _u : Unit, (toTok (endTok s)).f1 = (⟨#[]⟩ : ByteArray) := fun _ => rfl
    have f2 : ∀ _u : Unit, (toTok (endTok s)).f2 = (s.size : Int) := fun _ => rfl
    have hlen : ∀ _u : Unit, (((outT s.size s pre).length : Nat) : Int) = (pre.length : Int) + 1 := fun _ => by rw [outT_len]; omega
    have hw : ∀ _u : Unit, wrap64 ((s.size : Int) + ((⟨#[]⟩ : ByteArray).size : Int)) = (s.size : Int) := fun _ => by
      show wrap64 ((s.size : Int) + ((0 : Nat) : Int)) = _; unfold wrap64; omega
    have hl1 : ∀ _u : Unit, wrap64 ((((outT s.size s pre).length : Nat) : Int) - 1) = (pre.length : Int) := fun _ => by rw [hlen ()]; unfold wrap64; omega
    have hl2 : ∀ _u : Unit, wrap64 ((pre.length : Int) + 1 - 1) = (pre.length : Int) := fun _ => by unfold wrap64; omega
    have hi1 : ∀ _u : Unit, wrap64 ((pre.length : Int) + 1) = (pre.length : Int) + 1 := fun _ => by unfold wrap64; omega
    have hgl : (s.extract e s.size).data.toList = s.data.toList.drop e := by have := Lex.list_drop s e; exact this
    have hgap := gap_scan (s.extract e s.size) (by simp; omega) (by rw [hgl]; exact hv)
    have htl : (s.extract ((s.size : Int)).toNat ((s.size : Int)).toNat).toList = (⟨#[]⟩ : ByteArray).toList := by
      rw [Int.toNat_natCast, ByteArray.toList_eq, ByteArray.toList_eq]; simp
    have hne : (((4 : Int) == 4) != ((pre.length : Int) == (pre.length : Int))) = false := by simp
    rw [bournelaw13_LexBack.l0, hlen (), if_pos (by omega), if_pos (by omega), hat (), f0 (), f1 (), f2 (), if_neg (by decide)]
    rw [bournelaw13_LexBack.j2, hw (), hl1 (), if_neg (by omega), if_neg (by omega), if_pos (by omega), if_pos (by omega), if_pos (by omega), if_pos htl, hne, if_neg (by decide), if_pos (show (4 : Int) = 4 from rfl)]
    rw [bournelaw13_LexBack.j3, hw (), hi1 (), if_neg (by decide), if_pos (by omega), if_pos (by omega), if_pos (by omega), Int.toNat_natCast, Int.toNat_natCast, hgap, Option.bind_some]
    dsimp only
    rw [if_pos rfl, if_pos (by rfl), bournelaw13_LexBack.l0, hlen (), hl2 (), if_neg (by omega), if_pos rfl, if_pos rfl, if_pos (by omega), if_pos (by omega), hat (), f2 ()]
    simp
  | cons t ts ih =>
    intro pre e he hpl h k hk
    obtain ⟨k, rfl⟩ : ∃ j, k = j + 1 + 1 + 1 := ⟨k - 3, by simp at hk; omega⟩
    simp only [List.length_cons] at hk hpl
    obtain ⟨w, b', hwv, hst, hb⟩ := Lex.skip_split (s.data.toList.drop e) false
    generalize hv : skipL false (s.data.toList.drop e) = v at *
    cases h with
    | cons ho ht =>
      have hll := Lex.lenL_le v
      have hg := Lex.good_tok v ho
      have hvl : v.length ≤ s.size - e := by
        have := congrArg List.length hwv
        rw [List.length_drop, List.length_append] at this
        omega
      have hwl : w.length = s.size - e - v.length := by
        have := congrArg List.length hwv
        rw [List.length_drop, List.length_append] at this
        omega
      have hat : ∀ _u : Unit, rd_T32 (outT s.size s (pre ++ tokL v :: ts)) (pre.length : Int) = toTok (mkTok s.size (tokL v)) := fun _ => outT_at _ _ _ _ _
      have f0 : ∀ _u : Unit, (toTok (mkTok s.size (tokL v))).f0 = kindL v := fun _ => rfl
      have f1 : ∀ _u : Unit, (toTok (mkTok s.size (tokL v))).f1 = ⟨(textL (kindL v) (v.take (lenL v))).toArray⟩ := fun _ => rfl
      have f2 : ∀ _u : Unit, (toTok (mkTok s.size (tokL v))).f2 = ((s.size - v.length : Nat) : Int) := fun _ => rfl
      have hraw : (v.take (lenL v)).length = lenL v := by rw [List.length_take]; omega
      have hX : ∀ _u : Unit, ((⟨(v.take (lenL v)).toArray⟩ : ByteArray).size) = lenL v := fun _ => hraw
      have hlen : ∀ _u : Unit, (((outT s.size s (pre ++ tokL v :: ts)).length : Nat) : Int) = (pre.length : Int) + ts.length + 2 := fun _ => by rw [outT_len]; simp; omega
      have hl1 : ∀ _u : Unit, wrap64 ((((outT s.size s (pre ++ tokL v :: ts)).length : Nat) : Int) - 1) = (pre.length : Int) + ts.length + 1 := fun _ => by rw [hlen ()]; unfold wrap64; omega
      have hi1 : ∀ _u : Unit, wrap64 ((pre.length : Int) + 1) = (pre.length : Int) + 1 := fun _ => by unfold wrap64; omega
      have hw : ∀ _u : Unit, wrap64 (((s.size - v.length : Nat) : Int) + ((lenL v : Nat) : Int)) = ((s.size - v.length + lenL v : Nat) : Int) := fun _ => by unfold wrap64; omega
      have hdv : s.data.toList.drop (s.size - v.length) = v := by
        have h1 : (s.data.toList.drop e).drop w.length = v := by rw [hwv, List.drop_left]
        rw [List.drop_drop, hwl] at h1
        rw [← h1]; congr 1; rw [h1]; omega
      have hcut : (s.extract (s.size - v.length) (s.size - v.length + lenL v)).data.toList = v.take (lenL v) := by
        have h1 : (s.extract (s.size - v.length) (s.size - v.length + lenL v)).data.toList = (s.data.toList.drop (s.size - v.length)).take (lenL v) := by
          simp [ByteArray.data_extract, List.take_drop]
        rw [h1, hdv]
      have hgl : (s.extract e (s.size - v.length)).data.toList = w := by
        have h1 : (s.extract e (s.size - v.length)).data.toList = (s.data.toList.drop e).take (s.size - v.length - e) := by
          simp [ByteArray.data_extract, List.take_drop]
        rw [h1, hwv, List.take_left' (by omega)]
      have hgap := gap_scan (s.extract e (s.size - v.length)) (by simp; omega) (by rw [hgl]; exact Lex.skip_all w false b' hst)
      have hnext := ih (pre ++ [tokL v]) (s.size - v.length + lenL v) (by omega) (by simp; omega) (by rw [← List.drop_drop, hdv]; exact ht) k (by omega)
      rw [List.append_assoc, List.singleton_append, List.length_append, List.length_singleton] at hnext
      have hk4 : kindL v ≠ 4 := by rcases hg.kind with h1 | h1 | h1 | h1 <;> (have h2 : kindL v = _ := h1; omega)
      have hmid : bournelaw13_LexBack.j2 (k + 1 + 1) s true (outT s.size s (pre ++ tokL v :: ts)) (e : Int) (pre.length : Int) (⟨(v.take (lenL v)).toArray⟩ : ByteArray) (kindL v) ⟨(textL (kindL v) (v.take (lenL v))).toArray⟩ ((s.size - v.length : Nat) : Int) = some true := by
        have htl : (s.extract (s.size - v.length) (s.size - v.length + lenL v)).toList = (⟨(v.take (lenL v)).toArray⟩ : ByteArray).toList := by
          rw [ByteArray.toList_eq, ByteArray.toList_eq, hcut]
        have hemp : ((⟨(v.take (lenL v)).toArray⟩ : ByteArray).toList == ([] : List UInt8)) = false := by
          rw [ByteArray.toList_eq]
          have := hg.some
          exact beq_eq_false_iff_ne.mpr this
        have hne : ((kindL v == 4) != ((pre.length : Int) == (pre.length : Int) + ts.length + 1)) = false := by
          rw [beq_eq_false_iff_ne.mpr hk4, beq_eq_false_iff_ne.mpr (by omega)]; rfl
        rw [bournelaw13_LexBack.j2, hX (), hw (), hl1 (), if_neg (by omega), if_neg (by omega), if_pos (by omega), if_pos (by omega), if_pos (by omega), Int.toNat_natCast, Int.toNat_natCast, if_pos htl, hne, if_neg (by decide), if_neg hk4, hemp]
        rw [bournelaw13_LexBack.j3, hX (), hw (), hi1 (), if_neg (by decide), if_pos (by omega), if_pos (by omega), if_pos (by omega), Int.toNat_natCast, Int.toNat_natCast, hgap, Option.bind_some]
        dsimp only
        rw [if_pos rfl, if_pos (by rfl)]
        exact hnext
      rw [bournelaw13_LexBack.l0, hlen (), if_pos (by omega), if_pos (by omega), hat (), f0 (), f1 (), f2 ()]
      by_cases h2 : kindL v = 2
      · have h3 : v.take (lenL v) = 34 :: (textL 2 (v.take (lenL v)) ++ [34]) := hg.two h2
        have h4 : ((⟨#[34]⟩ : ByteArray) ++ ⟨(textL (kindL v) (v.take (lenL v))).toArray⟩) ++ (⟨#[34]⟩ : ByteArray) = ⟨(v.take (lenL v)).toArray⟩ := by
          apply ByteArray.ext
          apply Array.toList_inj.1
          rw [h2]
          conv => rhs; rw [show (⟨(v.take (lenL v)).toArray⟩ : ByteArray).data.toList = v.take (lenL v) from rfl, h3]
          simp
        have h5 := text_le (kindL v) (v.take (lenL v))
        have h6 : (⟨(textL (kindL v) (v.take (lenL v))).toArray⟩ : ByteArray).size = (textL (kindL v) (v.take (lenL v))).length := rfl
        have h7 : (⟨#[34]⟩ : ByteArray).size = 1 := rfl
        rw [if_pos h2, if_pos (by omega), if_pos (by rw [ByteArray.size_append]; omega), h4]
        exact hmid
      · have h3 : textL (kindL v) (v.take (lenL v)) = v.take (lenL v) := by unfold textL; rw [if_neg h2]
        rw [if_neg h2]
        rw [h3] at hmid ⊢
        exact hmid

theorem LexBack : bournelaw13_LexBack.Pure := by
  intro a0 w0
  refine ⟨200000, ?_⟩
  unfold bournelaw13_LexBack.f
  rw [small_ok 200000 (by omega), Option.bind_some]
  by_cases h1 : (a0.size : Int) > 4000
  · rw [if_pos h1]
  · rw [if_neg h1]
    have hs : a0.size ≤ 4000 := by omega
    rcases Lex.scanV_cases a0 (by omega) with ⟨ts, ht, _⟩ | ⟨r, hf, _⟩
    · obtain ⟨⟨us, hu, hm⟩, hl⟩ := toks_join ht
      have hsk := Lex.skip_length false a0.data.toList
      have hsz : a0.data.toList.length = a0.size := rfl
      have htl := ht.len
      have hT : (⟨(rawsJ ts).toArray⟩ : ByteArray).size = (rawsJ ts).length := rfl
      have hsu := Lex.toks_skip hu
      have hu' : Toks (skipL false (⟨(rawsJ ts).toArray⟩ : ByteArray).data.toList) us := by
        show Toks (skipL false (rawsJ ts)) us
        rw [hsu]; exact hu
      have hw1 := write_toks a0 (by omega) ts ht 200000 (by omega)
      have hw2 := write_toks ⟨(rawsJ ts).toArray⟩ (by rw [hT]; omega) us hu' 200000 (by omega)
      have hraw : rawsJ us = rawsJ ts := by
        have h3 : us.map (·.2.1) = ts.map (·.2.1) := by
          have := congrArg (List.map Prod.snd) hm
          rw [List.map_map, List.map_map] at this
          exact this
        unfold rawsJ; rw [h3]
      rw [hraw] at hw2
      have hsame := same_f false (outT a0.size a0 ts) (outT (⟨(rawsJ ts).toArray⟩ : ByteArray).size ⟨(rawsJ ts).toArray⟩ us) (same_toks _ _ _ _ ts us hm) (by rw [outT_len]; omega) 200000 (by rw [outT_len]; omega)
      rw [scan_toks a0 (by omega) ts ht, Option.bind_some]
      dsimp only
      rw [if_pos rfl]
      have hw1' : lex_Write.f 200000 (List.map toTok (List.map (mkTok a0.size) ts ++ [endTok a0])) = some ⟨(rawsJ ts).toArray⟩ := hw1
      rw [hw1', Option.bind_some, scan_toks ⟨(rawsJ ts).toArray⟩ (by rw [hT]; omega) us hu', Option.bind_some]
      dsimp only
      rw [if_pos rfl]
      have hsame' : bourneref13_Same.f 200000 (List.map toTok (List.map (mkTok a0.size) ts ++ [endTok a0])) (List.map toTok (List.map (mkTok (⟨(rawsJ ts).toArray⟩ : ByteArray).size) us ++ [endTok ⟨(rawsJ ts).toArray⟩])) false = some true := hsame
      have hw2' : lex_Write.f 200000 (List.map toTok (List.map (mkTok (⟨(rawsJ ts).toArray⟩ : ByteArray).size) us ++ [endTok ⟨(rawsJ ts).toArray⟩])) = some ⟨(rawsJ ts).toArray⟩ := hw2
      rw [hsame', Option.bind_some, if_pos rfl, hw2', Option.bind_some, if_pos rfl]
      have hb := back_l0 a0 hs ts [] 0 (by omega) (by simp; omega) (by simpa using ht) 199999 (by omega)
      rw [bournelaw13_LexBack.j0, if_neg (by simp; omega)]
      exact hb
    · obtain ⟨hr1, hr2⟩ := hf.le
      have hsk := Lex.skip_length false a0.data.toList
      have hsz : a0.data.toList.length = a0.size := rfl
      rw [scan_fails a0 (by omega) r hf, Option.bind_some]
      dsimp only
      rw [if_neg (by decide), if_pos rfl, if_pos rfl, if_pos (by rfl), if_pos (by omega)]
      congr 1
      simp
      omega
end Go.Proofs.YtjhinmdnabmdoaaDoor.Pure
