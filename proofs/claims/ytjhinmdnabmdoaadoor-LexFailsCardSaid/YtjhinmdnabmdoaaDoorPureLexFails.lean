/- LexFails, the plain law. -/
import Derived.Test.YtjhinmdnabmdoaaDoorPLexx9
import Derived.Test.YtjhinmdnabmdoaaDoorPureCom
import Derived.Test.YtjhinmdnabmdoaaDoorLexV
namespace Go.Proofs.YtjhinmdnabmdoaaDoor.Pure
open Go.RowKit Go.Proofs.YtjhinmdnabmdoaaDoor.PLex Go.Proofs.YtjhinmdnabmdoaaDoorW.PrintWords Go.Proofs.YtjhinmdnabmdoaaDoorW.PrintLast
open Lex (Tok RTok Toks Fails scanV mkTok endTok skipL okL lenL kindL textL tokL fails_split)

theorem LexFails : bournelaw13_LexFails.Pure := by
  intro a0 a1 w0 w1
  refine ⟨40, ?_⟩
  unfold bournelaw13_LexFails.f
  rw [small_ok 40 (by omega)]
  simp only [Option.bind_some]
  have hj : ∀ (k : Nat) b, (b = false → a0.size ≤ 4000 ∧ a1.size ≤ 1000) → bournelaw13_LexFails.j0 (k + 1 + 1) a0 a1 true b = some true := by
    intro k b hb
    cases b with
    | true => rw [bournelaw13_LexFails.j0]; rw [if_pos rfl]
    | false =>
      obtain ⟨h1, h2⟩ := hb rfl
      rw [bournelaw13_LexFails.j0]
      rw [if_neg (by decide)]
      rcases Lex.scanV_cases a0 (by omega) with ⟨ts, ht, _⟩ | ⟨r, hf, _⟩
      · rw [scan_toks a0 (by omega) ts ht, Option.bind_some, if_pos rfl]
      · obtain ⟨u, v, huv, hv, hvn, hov, hsv, ⟨us, hus⟩, hx, _⟩ := fails_split _ _ r (Nat.le_refl _) hf
        have hlen : a0.size = u.length + v.length := by
          rw [← List.length_append, ← huv]; rfl
        have hr : a0.size - r = u.length := by omega
        have e1 : (a0.extract 0 u.length).data.toList = u := by
          rw [Lex.list_take, huv]; simp
        have e2 : (a0.extract u.length a0.size).data.toList = v := by
          have := Lex.list_drop a0 u.length
          rw [this, huv]; simp
        have e3 : ((a0 ++ (⟨#[10]⟩ : ByteArray)) ++ a1).data.toList = a0.data.toList ++ 10 :: a1.data.toList := by
          simp
        have s1 : (a0.extract 0 u.length).size ≤ 65536 := by simp; omega
        have s2 : (a0.extract u.length a0.size).size = v.length := by simp; omega
        have s3 : ((a0 ++ (⟨#[10]⟩ : ByteArray)) ++ a1).size = a0.size + 1 + a1.size := by
          rw [ByteArray.size_append, ByteArray.size_append]; rfl
        have hvp : v.length ≠ 0 := fun h => hvn (List.eq_nil_of_length_eq_zero h)
        have f2 : Fails (skipL false v) v.length := by rw [hsv]; exact .here hvn hov
        rw [scan_fails a0 (by omega) r hf, Option.bind_some, hr]
        dsimp only
        have hd : (decide (((u.length : Nat) : Int) > (a0.size : Int))) = false := by simp; omega
        rw [if_neg (by decide), if_neg (by omega), hd]
        rw [bournelaw13_LexFails.j1]
        rw [if_neg (by decide), if_pos (by omega), if_pos (by omega), Int.toNat_natCast]
        rw [scan_toks _ s1 us (by rw [e1]; exact hus), scan_fails _ (by rw [s2]; omega) v.length (by rw [e2]; exact f2),
          scan_fails _ (by rw [s3]; omega) (r + 1 + a1.data.toList.length) (by rw [e3]; exact hx _)]
        simp only [Option.bind_some]
        rw [if_pos (by omega), if_pos (by rw [ByteArray.size_append]; show a0.size + 1 + a1.size ≤ _; omega)]
        have s4 : a1.data.toList.length = a1.size := rfl
        rw [s2, s3, s4, Nat.sub_self, show a0.size + 1 + a1.size - (r + 1 + a1.size) = u.length by omega]
        simp
  split
  · exact hj 38 true (fun h => by cases h)
  · refine hj 38 _ fun h => ?_
    simp only [decide_eq_false_iff_not] at h
    omega
end Go.Proofs.YtjhinmdnabmdoaaDoor.Pure
