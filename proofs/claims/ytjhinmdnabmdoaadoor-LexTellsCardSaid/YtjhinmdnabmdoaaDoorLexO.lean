/- An argument of type []Token, read from its cells. -/
import Derived.Test.YtjhinmdnabmdoaaDoorPLexx0
import Derived.Deep.Slices
import Derived.Deep.Fields
import Derived.ChangeSame
set_option linter.unusedVariables false
namespace Go.Proofs.YtjhinmdnabmdoaaDoor.Lex
open Go.ChangeShapes Go.WideShapes Go.RowKit Go.Deep Go.Proofs.YtjhinmdnabmdoaaDoorW.PrintWords Go.Proofs.YtjhinmdnabmdoaaDoor.PLex
theorem list_of {α : Type} {p : Nat → α → Prop} : ∀ n : Nat, (∀ i, i < n → ∃ x, p i x) → ∃ l : List α, l.length = n ∧ ∀ i x, l[i]? = some x → p i x
  | 0, _ => ⟨[], rfl, fun i x h => by simp at h⟩
  | n + 1, h => by
    obtain ⟨l, hl, hp⟩ := list_of n fun i hi => h i (by omega)
    obtain ⟨x, hx⟩ := h n (by omega)
    refine ⟨l ++ [x], by simp [hl], fun i y hy => ?_⟩
    by_cases hi : i < l.length
    · rw [List.getElem?_append_left hi] at hy; exact hp i y hy
    · have : i = n := by
        have := (List.getElem?_eq_some_iff.1 hy).1
        simp at this; omega
      subst this
      rw [List.getElem?_append_right (by omega), hl, Nat.sub_self] at hy
      obtain rfl := Option.some.inj hy
      exact hx
theorem open_toks {H : Type} {enc : TypeId × Value → H} {w : World} {base : Nat} {spare : Nat → Bool} {held : Bool} {fuel : Nat} {cs : List Value} {x : DataW H × List MemPlace}
    (h : DataW.trod enc Tryd.prog w base spare held fuel 22 cs = some x) : ∃ (A : Option Addr) (c : Nat) (l : List S32), cs = [.slice A l.length c] ∧ l.length ≤ c ∧ Kd.C k32 w A l.length l := by
  rcases open_slice Tryd.underlying22 h with ⟨rfl, _⟩ | ⟨a, len, cap, m, n, D, Pl, rfl, hb, hl, hm, hmm, hx, hi⟩
  · exact ⟨none, 0, [], rfl, Nat.le_refl _, rfl, by decide, fun h => by simp at h⟩
  · have hC : Tryd.prog.cellsOf 32 = 3 := by kernel_rfl
    have hc3 : Tryd.prog.cellsOf 3 = 1 := by kernel_rfl
    have hc9 : Tryd.prog.cellsOf 9 = 1 := by kernel_rfl
    have hlm : len ≤ m := by rw [hmm]; split <;> omega
    have hel : ∀ i, i < len → ∃ t : S32, ∀ j u, ([.int .i64 t.f0, .string t.f1, .int .i64 t.f2] : List Value)[j]? = some u → w.cell? (a.add (i * 3 + j)) = some u := by
      intro i him
      obtain ⟨cs', hc, ht⟩ := hi i (by omega)
      rw [hC] at hc
      obtain ⟨xs, n', hn, hx', hlen, hxl, hf⟩ := DataW.trod_struct Tryd.underlying32 ht
      rw [hC] at hlen
      obtain ⟨_, hcl, hat⟩ := World.cells?_some hc
      match cs', hlen with
      | [c0, c1, c2], _ =>
        match xs, hxl with
        | [y0, y1, y2], _ =>
          have h0 : DataW.trod enc Tryd.prog w base spare held n' 3 [c0] = some y0 := by
            have : DataW.trod enc Tryd.prog w base spare held n' 3 (List.take (Tryd.prog.cellsOf 3) [c0, c1, c2]) = some y0 := hf 0 _ rfl
            rw [hc3] at this
            exact this
          have h1 : DataW.trod enc Tryd.prog w base spare held n' 9 [c1] = some y1 := by
            have : DataW.trod enc Tryd.prog w base spare held n' 9 (List.take (Tryd.prog.cellsOf 9) [c1, c2]) = some y1 := hf 1 _ rfl
            rw [hc9] at this
            exact this
          have h2 : DataW.trod enc Tryd.prog w base spare held n' 3 [c2] = some y2 := by
            have : DataW.trod enc Tryd.prog w base spare held n' 3 (List.take (Tryd.prog.cellsOf 3) [c2]) = some y2 := hf 2 _ rfl
            rw [hc3] at this
            exact this
          obtain ⟨k0, e0, _, _⟩ := DataW.trod_int Tryd.underlying3 h0
          obtain ⟨k1, e1, _, _⟩ := DataW.trod_string Tryd.underlying9 h1
          obtain ⟨k2, e2, _, _⟩ := DataW.trod_int Tryd.underlying3 h2
          obtain rfl := (List.cons.inj e0).1
          obtain rfl := (List.cons.inj e1).1
          obtain rfl := (List.cons.inj e2).1
          refine ⟨⟨k0, k1, k2⟩, fun j u hj => ?_⟩
          have hj3 : j < 3 := (List.getElem?_eq_some_iff.1 hj).1
          have h4 := hat j hj3
          rw [Go.Deep.add_add] at h4
          rw [h4]
          exact hj
    obtain ⟨l, hll, hp⟩ := list_of len hel
    subst hll
    refine ⟨some a, cap, l, rfl, hl, rfl, ?_, fun _ => ⟨a, rfl, fun j t hj => ⟨_, rfl, k32_mk w t, hp j t hj⟩⟩⟩
    have : maxLen ≤ 9223372036854775807 := by decide
    omega
end Go.Proofs.YtjhinmdnabmdoaaDoor.Lex
