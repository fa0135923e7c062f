/- The tokens that Scan returns, as lists, in plain Lean. -/
import Derived.Test.YtjhinmdnabmdoaaDoorPureCom
import Derived.Test.YtjhinmdnabmdoaaDoorLexX
set_option linter.unusedVariables false
namespace Go.Proofs.YtjhinmdnabmdoaaDoor.PureO
open Go.RowKit Go.Proofs.YtjhinmdnabmdoaaDoor.PLex Go.Proofs.YtjhinmdnabmdoaaDoorW.PrintWords Go.Proofs.YtjhinmdnabmdoaaDoorW.PrintLast
open Go.Proofs.YtjhinmdnabmdoaaDoor.Pure
open Lex (Tok RTok Toks Fails scanV mkTok endTok skipL okL lenL kindL textL tokL fails_split GoodR toks_good toks_join rawsJ)

/-- The tokens of a source, as Scan returns them. -/
def outT (n : Nat) (s : ByteArray) (ts : List RTok) : List S32 := (ts.map (mkTok n) ++ [endTok s]).map toTok
theorem outT_len (n : Nat) (s : ByteArray) (ts : List RTok) : (outT n s ts).length = ts.length + 1 := by simp [outT]
theorem outT_at (n : Nat) (s : ByteArray) (pre : List RTok) (t : RTok) (ts : List RTok) : rd_T32 (outT n s (pre ++ t :: ts)) (pre.length : Int) = toTok (mkTok n t) := by
  unfold rd_T32 outT
  rw [Int.toNat_natCast, List.getD_eq_getElem?_getD]
  simp
theorem outT_end (n : Nat) (s : ByteArray) (ts : List RTok) : rd_T32 (outT n s ts) (ts.length : Int) = toTok (endTok s) := by
  unfold rd_T32 outT
  rw [Int.toNat_natCast, List.getD_eq_getElem?_getD]
  simp

theorem text_le (k : Int) (raw : List UInt8) : (textL k raw).length ≤ raw.length := by
  unfold textL; split <;> simp <;> omega
theorem same_toks (n m : Nat) (s t : ByteArray) : ∀ (ts us : List RTok), us.map (fun t => (t.1, t.2.1)) = ts.map (fun t => (t.1, t.2.1)) → (outT n s ts).map (keyT false) = (outT m t us).map (keyT false)
  | [], [], _ => by simp [outT, keyT, toTok, endTok]
  | [], _ :: _, h => by simp at h
  | _ :: _, [], h => by simp at h
  | a :: ts, b :: us, h => by
    simp only [List.map_cons, List.cons.injEq, Prod.mk.injEq] at h
    have ih := same_toks n m s t ts us h.2
    show keyT false (toTok (mkTok n a)) :: (outT n s ts).map (keyT false) = keyT false (toTok (mkTok m b)) :: (outT m t us).map (keyT false)
    rw [ih]
    congr 1
    simp [keyT, toTok, mkTok, h.1.1, h.1.2]


theorem outT_get (n : Nat) (s : ByteArray) (ts : List RTok) (i : Nat) (t : RTok) (h : ts[i]? = some t) : rd_T32 (outT n s ts) (i : Int) = toTok (mkTok n t) := by
  obtain ⟨hi, rfl⟩ := List.getElem?_eq_some_iff.1 h
  unfold rd_T32 outT
  rw [Int.toNat_natCast, List.getD_eq_getElem?_getD]
  simp [List.getElem?_append, hi]
theorem bt_drop (s : ByteArray) (i : Nat) (c : UInt8) (r : List UInt8) (h : s.data.toList.drop i = c :: r) : bt s (i : Int) = (c.toNat : Int) ∧ i < s.size ∧ s.data.toList.drop (i + 1) = r := by
  have hi : i < s.data.toList.length := by
    have := congrArg List.length h
    rw [List.length_drop, List.length_cons] at this
    omega
  have hs : i < s.size := hi
  refine ⟨?_, hs, ?_⟩
  · unfold bt
    rw [Int.toNat_natCast, dif_pos hs]
    have h2 : s.data.toList[i]'hi = c := by
      have h3 := List.drop_eq_getElem_cons hi
      rw [h] at h3
      injection h3 with h4 h5
      exact h4.symm
    rw [← h2]
    rfl
  · have := congrArg (List.drop 1) h
    rw [List.drop_drop] at this
    exact this
theorem drop_end (s : ByteArray) (i : Nat) (h : s.size ≤ i) : s.data.toList.drop i = [] := List.drop_of_length_le h
end Go.Proofs.YtjhinmdnabmdoaaDoor.PureO
