/- What the laws of layer 13 have in common, in plain Lean: small, Same, Write. -/
import Derived.Test.YtjhinmdnabmdoaaDoorPLexx1
import Derived.Test.YtjhinmdnabmdoaaDoorLexU
set_option linter.unusedVariables false
namespace Go.Proofs.YtjhinmdnabmdoaaDoor.Pure
open Go.RowKit Go.Proofs.YtjhinmdnabmdoaaDoor.PLex Go.Proofs.YtjhinmdnabmdoaaDoorW.PrintWords Go.Proofs.YtjhinmdnabmdoaaDoorW.PrintLast
open Lex (Tok RTok Toks Fails scanV mkTok endTok skipL okL lenL kindL textL tokL)

theorem small_ok : ∀ k, 30 ≤ k → bournelaw13_small.f k = some true :=
  fun k hk => at_rounds bournelaw13_small.mono hk (by decide +kernel)

def keyT (b : Bool) (t : S32) : Int × ByteArray × Int := (t.f0, t.f1, if b then t.f2 else 0)
theorem wrap_small (n : Int) (h0 : 0 ≤ n) (h1 : n < 4611686018427387904) : wrap64 (n + 1) = n + 1 := by unfold wrap64; omega
theorem key_at {b : Bool} {x y : List S32} (h : x.map (keyT b) = y.map (keyT b)) (i : Nat) : keyT b (x.getD i z32) = keyT b (y.getD i z32) := by
  have hl : x.length = y.length := by simpa using congrArg List.length h
  have h1 : (x.map (keyT b))[i]? = (y.map (keyT b))[i]? := by rw [h]
  rw [List.getElem?_map, List.getElem?_map] at h1
  rw [List.getD_eq_getElem?_getD, List.getD_eq_getElem?_getD]
  rcases hx : x[i]? with _ | a <;> rcases hy : y[i]? with _ | c <;> rw [hx, hy] at h1 <;> simp_all
theorem same_l0 (b : Bool) (x y : List S32) (h : x.map (keyT b) = y.map (keyT b)) (hn : x.length < 4611686018427387904) : ∀ (n i : Nat), x.length ≤ i + n → ∀ k, n < k → bourneref13_Same.l0 k x y b (i : Int) = some true := by
  have hl : x.length = y.length := by simpa using congrArg List.length h
  intro n
  induction n with
  | zero =>
    intro i hi k hk
    obtain ⟨k, rfl⟩ : ∃ j, k = j + 1 := ⟨k - 1, by omega⟩
    unfold bourneref13_Same.l0
    rw [if_neg (by omega)]
  | succ n ih =>
    intro i hi k hk
    obtain ⟨k, rfl⟩ : ∃ j, k = j + 1 := ⟨k - 1, by omega⟩
    unfold bourneref13_Same.l0
    by_cases hx : (i : Int) < x.length
    · have h2 := key_at h i
      simp only [keyT, Prod.mk.injEq] at h2
      obtain ⟨e0, e1, e2⟩ := h2
      have r0 : rd_T32 x (i : Int) = x.getD i z32 := rfl
      have r1 : rd_T32 y (i : Int) = y.getD i z32 := rfl
      have hi1 : wrap64 ((i : Int) + 1) = ((i + 1 : Nat) : Int) := by rw [wrap_small] <;> omega
      have hrec := ih (i + 1) (by omega) k (by omega)
      rw [if_pos hx, if_pos (by omega), if_pos (by omega), r0, r1, if_pos e0, if_pos (by rw [e1]), hi1, hrec]
      cases b
      · rfl
      · rw [if_pos rfl, if_pos (by simpa using e2)]
    · rw [if_neg hx]
theorem same_f (b : Bool) (x y : List S32) (h : x.map (keyT b) = y.map (keyT b)) (hn : x.length < 4611686018427387904) (k : Nat) (hk : x.length < k) : bourneref13_Same.f k x y b = some true := by
  have hl : x.length = y.length := by simpa using congrArg List.length h
  unfold bourneref13_Same.f
  rw [if_pos (by omega)]
  exact same_l0 b x y h hn x.length 0 (by omega) k hk

/-- What Write adds for a token. -/
def writeT1 (t : S32) : List ByteArray := if t.f0 = 0 ∨ t.f0 = 1 ∨ t.f0 = 3 then [t.f1] else if t.f0 = 2 then [(⟨#[34]⟩ : ByteArray) ++ t.f1 ++ (⟨#[34]⟩ : ByteArray)] else []
def writeT (l : List S32) : List ByteArray := l.flatMap writeT1
theorem writeT1_len (t : S32) : (writeT1 t).length ≤ 1 := by unfold writeT1; split <;> (try split) <;> simp
theorem writeT_len (l : List S32) : (writeT l).length ≤ l.length := by
  induction l with
  | nil => simp [writeT]
  | cons t l ih => have := writeT1_len t; simp only [writeT, List.flatMap_cons, List.length_append, List.length_cons] at *; omega
theorem write_l0 (l : List S32) (hn : l.length < 1000000) (ht : ∀ t ∈ l, t.f1.size < 1000000) : ∀ (n i : Nat), l.length = i + n → ∀ k, 2 * n + 1 ≤ k →
    lex_Write.l0 k (writeT (l.take i)) l (l.length : Int) (i : Int) = strings_Join.f (writeT l) (⟨#[32]⟩ : ByteArray) := by
  intro n
  induction n with
  | zero =>
    intro i hi k hk
    obtain ⟨k, rfl⟩ : ∃ j, k = j + 1 := ⟨k - 1, by omega⟩
    unfold lex_Write.l0
    rw [if_neg (by omega), List.take_of_length_le (by omega)]
    cases strings_Join.f (writeT l) (⟨#[32]⟩ : ByteArray) <;> rfl
  | succ n ih =>
    intro i hi k hk
    obtain ⟨k, rfl⟩ : ∃ j, k = j + 2 := ⟨k - 2, by omega⟩
    have hil : i < l.length := by omega
    have r0 : rd_T32 l (i : Int) = l[i] := by unfold rd_T32; rw [Int.toNat_natCast, List.getD_eq_getElem?_getD, List.getElem?_eq_getElem hil]; rfl
    have hi1 : wrap64 ((i : Int) + 1) = ((i + 1 : Nat) : Int) := by rw [wrap_small] <;> omega
    have hrec := ih (i + 1) (by omega) k (by omega)
    have htk : writeT (l.take (i + 1)) = writeT (l.take i) ++ writeT1 l[i] := by
      rw [List.take_succ_eq_append_getElem hil]; unfold writeT; rw [List.flatMap_append]; simp only [List.flatMap_cons, List.flatMap_nil, List.append_nil]
    have hsz := ht l[i] (List.getElem_mem hil)
    have hwl : (writeT (l.take i)).length < 8796093022208 := by have := writeT_len (l.take i); simp only [List.length_take] at this; omega
    unfold lex_Write.l0
    rw [if_pos (by omega), if_pos (by omega), if_pos (by omega), r0]
    have hs34 : (⟨#[34]⟩ : ByteArray).size = 1 := rfl
    by_cases h0 : l[i].f0 = 0
    · rw [if_pos h0]
      unfold lex_Write.j1
      rw [if_pos (by simp [h0]), if_pos hwl, hi1, ← hrec, htk]
      simp [writeT1, h0]
    · rw [if_neg h0]
      by_cases h1 : l[i].f0 = 1
      · rw [if_pos h1]
        unfold lex_Write.j1
        rw [if_pos (by simp [h1]), if_pos hwl, hi1, ← hrec, htk]
        simp [writeT1, h1]
      · rw [if_neg h1]
        unfold lex_Write.j1
        by_cases h3 : l[i].f0 = 3
        · rw [if_pos (by simp [h3]), if_pos hwl, hi1, ← hrec, htk]
          simp [writeT1, h3]
        · rw [if_neg (by simp [h3])]
          by_cases h2 : l[i].f0 = 2
          · rw [if_pos h2, if_pos (by omega), if_pos (by rw [ByteArray.size_append]; omega), if_pos hwl, hi1, ← hrec, htk]
            simp [writeT1, h2]
          · rw [if_neg h2, hi1, ← hrec, htk]
            simp [writeT1, h0, h1, h2, h3]
theorem write_f (l : List S32) (hn : l.length < 1000000) (ht : ∀ t ∈ l, t.f1.size < 1000000) (k : Nat) (hk : 2 * l.length + 1 ≤ k) : lex_Write.f k l = strings_Join.f (writeT l) (⟨#[32]⟩ : ByteArray) :=
  write_l0 l hn ht l.length 0 (by omega) k hk

/-- The bytes of the texts, joined. -/
theorem join_f (l : List ByteArray) (h1 : l.length ≤ 1000000) (h2 : (Lib.join (l.map (·.data.toList)) [32]).length ≤ 1000000) : strings_Join.f l (⟨#[32]⟩ : ByteArray) = some ⟨(Lib.join (l.map (·.data.toList)) [32]).toArray⟩ := by
  unfold strings_Join.f
  rw [if_pos ⟨by omega, by show (Lib.join (l.map (·.data.toList)) [32]).length ≤ _; omega⟩]

theorem scan_f (s : ByteArray) (h : s.size ≤ 9223372036854775807) : lex_Scan.f s = some ((scanV s).1.map toTok, (scanV s).2.1, (scanV s).2.2) := by
  unfold lex_Scan.f; rw [if_pos h]
theorem scan_toks (s : ByteArray) (hs : s.size ≤ 65536) (ts : List RTok) (h : Toks (skipL false s.data.toList) ts) : lex_Scan.f s = some ((ts.map (mkTok s.size) ++ [endTok s]).map toTok, 0, 0) := by
  rw [scan_f s (by omega), Lex.scanV_toks s hs ts h]
theorem scan_fails (s : ByteArray) (hs : s.size ≤ 65536) (r : Nat) (h : Fails (skipL false s.data.toList) r) : lex_Scan.f s = some ([], 2, ((s.size - r : Nat) : Int)) := by
  rw [scan_f s (by omega), Lex.scanV_fails s hs r h]; rfl
end Go.Proofs.YtjhinmdnabmdoaaDoor.Pure
