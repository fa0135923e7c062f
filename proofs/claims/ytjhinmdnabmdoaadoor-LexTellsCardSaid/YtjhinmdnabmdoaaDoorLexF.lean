/- lex.tokens: the iterator over a source's tokens. -/
import Derived.Test.YtjhinmdnabmdoaaDoorLexE
set_option linter.unusedVariables false
set_option linter.unusedSimpArgs false
namespace Go.Proofs.YtjhinmdnabmdoaaDoor.Lex
open Go.RowKit Go.Shelf
attribute [local go_sem] Oper.semAt_some

/-- The first byte, as a number; 0: there is none. -/
def headB (s : ByteArray) : Int := match s.data.toList with
  | [] => 0
  | c :: _ => c.toNat
def firstK (s : ByteArray) : Int := if letterB (headB s) then 0 else if digitB (headB s) then 1 else if headB s == 34 then 2 else 3
def firstT (s : ByteArray) : ByteArray := if letterB (headB s) then s.extract 0 (preN wordB s.data.toList) else if digitB (headB s) then numB s else if headB s == 34 then strB s else signB s
theorem head_at (s : ByteArray) (h0 : 0 < s.size) : (s[0].toNat : Int) = headB s := by
  obtain ⟨⟨l⟩⟩ := s
  cases l with
  | nil => simp [ByteArray.size] at h0
  | cons c l => rfl
theorem first_calls (s : ByteArray) (hs : s.size ≤ maxLen) (h0 : 0 < s.size) (w : World) :
    Calls Tryd.prog 22 #[.string s] w fun e w' => e = .returned (.tuple #[.int .i64 (firstK s), .string (firstT s)]) ∧ Below w.heap.size w w' := by
  have he := head_at s h0
  cases hl : letterB (headB s) with
  | true =>
    have := first_letter s hs h0 (by rw [he]; exact hl) w
    simpa [firstK, firstT, hl] using this
  | false =>
    cases hd : digitB (headB s) with
    | true =>
      have := first_digit s hs h0 (by rw [he]; exact hl) (by rw [he]; exact hd) w
      simpa [firstK, firstT, hl, hd] using this
    | false =>
      cases hq : (headB s == 34) with
      | true =>
        have := first_text s hs h0 (by rw [he]; exact hl) (by rw [he]; exact hd) (by rw [he]; exact hq) w
        simpa [firstK, firstT, hl, hd, hq] using this
      | false =>
        have := first_sign s hs h0 (by rw [he]; exact hl) (by rw [he]; exact hd) (by rw [he]; exact hq) w
        simpa [firstK, firstT, hl, hd, hq] using this
theorem ext_le (s : ByteArray) (a b : Nat) : (s.extract a b).size ≤ s.size := by rw [ByteArray.size_extract]; omega
theorem firstT_le (s : ByteArray) : (firstT s).size ≤ s.size := by
  unfold firstT
  split
  · exact ext_le _ _ _
  · split
    · unfold numB
      split
      · exact ext_le _ _ _
      · exact ext_le _ _ _
    · split
      · unfold strB
        split
        · exact ext_le _ _ _
        · exact Nat.zero_le _
      · unfold signB
        cases h : signList.find? (hpB s ·) with
        | none => exact Nat.zero_le _
        | some x => exact hpB_size (by simpa using List.find?_some h)

/-- The text of a token out of its bytes. -/
def textOf (k : Int) (t : ByteArray) : ByteArray := if k = 2 ∧ t.size ≠ 0 then t.extract 1 (t.size - 1) else t
def mostOf (k : Int) : Int := if k = 2 then 502 else 24
/-- Are these bytes a token? -/
def okOf (k : Int) (t : ByteArray) : Bool := decide (t.size ≠ 0) && decide ((t.size : Int) ≤ mostOf k)
def spaceN (s : ByteArray) : Nat := s.size - (skipL false s.data.toList).length
theorem spaceN_le (s : ByteArray) : spaceN s ≤ s.size := by unfold spaceN; omega
theorem space_num (s : ByteArray) : ((s.size : Int) - (skipL false s.data.toList).length) = (spaceN s : Nat) := by
  have := skip_length false s.data.toList; rw [← size_list] at this; unfold spaceN; omega
theorem spaceN_calls (s : ByteArray) (hs : s.size ≤ maxLen) (w : World) :
    Calls Tryd.prog 21 #[.string s] w fun e w' => e = .returned (.int .i64 (spaceN s)) ∧ Below w.heap.size w w' := by
  have := space_calls s hs w
  rw [space_num] at this; exact this

def subAt (s : ByteArray) (p : Nat) : ByteArray := s.extract p s.size
def kAt (s : ByteArray) (p : Nat) : Int := firstK (subAt s p)
def tAt (s : ByteArray) (p : Nat) : ByteArray := firstT (subAt s p)
def okAt (s : ByteArray) (p : Nat) : Bool := okOf (kAt s p) (tAt s p)
def nextAt (s : ByteArray) (p : Nat) : Nat := p + (tAt s p).size + spaceN (subAt s (p + (tAt s p).size))
theorem tAt_le (s : ByteArray) (p : Nat) (hp : p ≤ s.size) : p + (tAt s p).size ≤ s.size := by
  have := firstT_le (subAt s p)
  have h2 : (subAt s p).size = s.size - p := by unfold subAt; simp
  unfold tAt; omega
theorem nextAt_le (s : ByteArray) (p : Nat) (hp : p ≤ s.size) : nextAt s p ≤ s.size := by
  have h1 := tAt_le s p hp
  have := spaceN_le (subAt s (p + (tAt s p).size))
  have h2 : (subAt s (p + (tAt s p).size)).size = s.size - (p + (tAt s p).size) := by unfold subAt; simp
  unfold nextAt; omega

def IterPost (s : ByteArray) (J Jx : Nat → World → Prop) (e : Ending) (W : World) : Prop :=
  (∃ v, e = .returned v) ∧ ((∃ p, p = s.size ∧ J p W) ∨ (∃ p, p < s.size ∧ okAt s p = false ∧ Jx p W))
def TokRound (s : ByteArray) (p : Nat) (J Jx : Nat → World → Prop) (e : Ending) (W : World) : Prop :=
  (e = .returned (.bool true) ∧ okAt s p = true ∧ J (nextAt s p) W) ∨ (e = .returned (.bool false) ∧ okAt s p = false ∧ Jx p W)

theorem tokens_calls (s : ByteArray) (w : World) : Calls Tryd.prog 16 #[.string s] w fun e w' => e = .returned (.func (.func 20) #[] #[.pointer (some ⟨w.heap.size, 0, none⟩)]) ∧ w' = w.alloc (.cells #[.string s] 9) := by
  go_enter Tryd.func16, Tryd.ntmps16
  go_wp2
  go_ret
  exact ⟨rfl, rfl⟩

/-- What one round needs to know, its values under letters. -/
structure RF (s : ByteArray) (l p : Nat) (J Jx : Nat → World → Prop) (kk : Int) (t : ByteArray) (oo : Bool) (sp nn : Nat) : Prop where
  first : ∀ w, Calls Tryd.prog 22 #[.string (s.extract p s.size)] w fun e w' => e = .returned (.tuple #[.int .i64 kk, .string t]) ∧ Below w.heap.size w w'
  space : ∀ w, Calls Tryd.prog 21 #[.string (s.extract (p + t.size) s.size)] w fun e w' => e = .returned (.int .i64 sp) ∧ Below w.heap.size w w'
  le : p + t.size ≤ s.size
  nl : nn ≤ s.size
  nx : nn = p + t.size + sp
  ok : oo = okOf kk t
  round : ∀ W, J p W → YieldAt Fence.wide 1 Tryd.prog l #[.agg #[.int .i64 kk, .string (textOf kk t), .int .i64 p], .bool oo] W fun e W' =>
    (e = .returned (.bool true) ∧ oo = true ∧ J nn W') ∨ (e = .returned (.bool false) ∧ oo = false ∧ Jx p W')
  oo : okAt s p = oo
  two : kk = 2 → t.size ≠ 0 → 2 ≤ t.size
theorem two_size (s : ByteArray) (hk : firstK s = 2) (h0 : (firstT s).size ≠ 0) : 2 ≤ (firstT s).size := by
  unfold firstK at hk
  unfold firstT at h0 ⊢
  split at hk
  · cases hk
  · split at hk
    · cases hk
    · split at hk
      · rename_i h1 h2 h3
        rw [if_neg h1, if_neg h2, if_pos h3] at h0 ⊢
        unfold strB at h0 ⊢
        split
        · rename_i hq
          have := hpB_size hq
          simp only [ByteArray.size_extract] at this ⊢
          have h5 : (⟨#[34]⟩ : ByteArray).size = 1 := rfl
          omega
        · rename_i hq; rw [if_neg hq] at h0; exact absurd rfl h0
      · cases hk
theorem round_facts (s : ByteArray) (hs : s.size ≤ maxLen) (l p : Nat) (J Jx : Nat → World → Prop) (hp : p < s.size)
    (hY : ∀ p W, p < s.size → J p W → YieldAt Fence.wide 1 Tryd.prog l #[.agg #[.int .i64 (kAt s p), .string (textOf (kAt s p) (tAt s p)), .int .i64 p], .bool (okAt s p)] W (TokRound s p J Jx)) :
    ∃ kk t oo sp nn, RF s l p J Jx kk t oo sp nn := by
  unfold maxLen at hs
  exact ⟨kAt s p, tAt s p, okAt s p, spaceN (subAt s (p + (tAt s p).size)), nextAt s p,
    fun w => first_calls (subAt s p) (by unfold subAt maxLen; simp; omega) (by unfold subAt; simp; omega) w,
    fun w => spaceN_calls (subAt s (p + (tAt s p).size)) (by unfold subAt maxLen; simp; omega) w,
    tAt_le s p (by omega), nextAt_le s p (by omega), rfl, rfl, fun W hW => hY p W hp hW, rfl, two_size _⟩

set_option maxRecDepth 100000 in
set_option maxHeartbeats 2000000 in
theorem tokens_iter (s : ByteArray) (hs : s.size ≤ maxLen) (l B : Nat) (J Jx : Nat → World → Prop)
    (hbox : ∀ p W, J p W → W.cell? ⟨B, 0, none⟩ = some (.string s) ∧ B < W.heap.size) (hgrow : ∀ p W W', J p W → Below W.heap.size W W' → J p W')
    (hY : ∀ p W, p < s.size → J p W → YieldAt Fence.wide 1 Tryd.prog l #[.agg #[.int .i64 (kAt s p), .string (textOf (kAt s p) (tAt s p)), .int .i64 p], .bool (okAt s p)] W (TokRound s p J Jx))
    (W : World) (h0 : J (spaceN s) W) :
    CallsIn Fence.wide 2 Tryd.prog 20 (#[.func (.yield l) #[] #[]] ++ #[.pointer (some ⟨B, 0, none⟩)]) W (IterPost s J Jx) := by
  have HS := Lib.hid hs
  have HY := Lib.hid hY; clear hY
  have HX := Lib.hid hbox; clear hbox
  have HG := Lib.hid hgrow; clear hgrow
  unfold maxLen at hs
  refine callsIn_of_wp Tryd.func20 rfl trivial ?_ rfl
  simp only [Tryd.ntmps20, List.size_toArray, List.length_cons, List.length_nil, Nat.reduceAdd, Nat.reduceSub, Array.replicate_succ, Array.replicate_zero, List.push_toArray, List.append_toArray, List.nil_append, List.cons_append]
  obtain ⟨c0, hB⟩ := HX.out _ _ h0
  have H0 := Lib.hid h0; clear h0
  gi_wp2_with (refine ⟨trivial, ?_⟩; gi_at_call 21; refine (callsIn_wide.2 (spaceN_calls _ HS.out _)).mono ?_; rintro e w1 ⟨rfl, hb1⟩)
  clear c0
  gi_loopw [3] (fun i wr => ∃ p : Nat, p ≤ s.size ∧ i = .int .i64 p ∧ Hid (J p wr)) (fun i _ => s.size - (intOf i).toNat)
  case atStart => exact ⟨spaceN s, spaceN_le s, rfl, HG.out _ _ _ H0.out hb1⟩
  case round =>
    obtain ⟨p, hp, rfl, HJ⟩ := hrel
    clear hb1 H0
    obtain ⟨c0, hB⟩ := HX.out _ _ HJ.out
    by_cases hlt : p < s.size
    · obtain ⟨kk, t, oo, sp, nn, hf⟩ := round_facts s HS.out l p J Jx hlt HY.out
      have hle := hf.le
      have hnl := hf.nl
      have hsp : p + t.size + sp ≤ s.size := by rw [← hf.nx]; exact hnl
      have HF := Lib.hid hf; clear hf hnl HY
      by_cases hk : kk = 2
      · subst hk
        have HM : Hid (okOf 2 t = (decide (t.size ≠ 0) && decide (t.size ≤ 502))) := by show _ = _; simp only [okOf, mostOf, if_true]; congr 1; simp; omega
        by_cases h0 : t.size = 0
        · have hpl : t.toList = [] := by rw [toList_data]; exact List.eq_nil_of_length_eq_zero (by rw [← size_list]; exact h0)
          have hpl2 : (!t.toList.isEmpty) = false := by rw [hpl]; rfl
          clear hpl
          have HE : Hid (oo = false) := by show _ = _; rw [HF.out.ok, HM.out]; simp [h0]
          have HT : Hid (textOf 2 t = t) := by show _ = _; simp [textOf, h0]
          clear h0
          gi_wp2_with (first | (refine ⟨trivial, ?_⟩; gi_at_call 22; refine (callsIn_wide.2 (HF.out.first _)).mono ?_; rintro e w1 ⟨rfl, hb1⟩; have c1 := (hb1.cell (p := ⟨B, 0, none⟩) hB).trans c0))
          have hJ1 := HG.out p wr (w1.alloc (.cells #[.int .i64 2, .string t, .int .i64 p] 32)) HJ.out (hb1.alloc hb1.size _)
          obtain ⟨fn, tmps, assign, body, hy, hR⟩ := HF.out.round _ hJ1
          rw [HT.out, HE.out] at hy
          have HR := Lib.hid hR; clear hR hJ1
          rw [hy, Oper.uponIn_round]
          refine ⟨fun _ => by omega, HR.out.mono ?_⟩
          rintro e W3 (⟨rfl, h1, h2⟩ | ⟨rfl, h1, h2⟩)
          · rw [HE.out] at h1; cases h1
          · have H2 := Lib.hid h2; clear h2 h1
            gi_wp2
            refine bodyPost_ret (results_none rfl _ _ _) rfl ?_
            exact ⟨⟨_, rfl⟩, .inr ⟨p, hlt, HF.out.oo.trans HE.out, H2.out⟩⟩
        · have hpl1 : t.toList.isEmpty = false := by
            rw [toList_data]
            cases h : t.data.toList with
            | nil => exact absurd (by rw [size_list, h]; rfl) h0
            | cons _ _ => rfl
          have hpl2 : (!t.toList.isEmpty) = true := by rw [hpl1]; rfl
          have HE : Hid (oo = decide ((t.size : Int) ≤ 502)) := by show _ = _; rw [HF.out.ok, HM.out, decide_eq_true h0, Bool.true_and]; exact decide_eq_decide.2 (by omega)
          have ht0 : 2 ≤ t.size := HF.out.two rfl h0
          have HT : Hid (textOf 2 t = t.extract 1 (t.size - 1)) := by show _ = _; simp [textOf, h0]
          clear h0
          gi_wp2_with (first | (refine ⟨trivial, ?_⟩; gi_at_call 22; refine (callsIn_wide.2 (HF.out.first _)).mono ?_; rintro e w1 ⟨rfl, hb1⟩; have c1 := (hb1.cell (p := ⟨B, 0, none⟩) hB).trans c0))
          have hJ1 := HG.out p wr (w1.alloc (.cells #[.int .i64 2, .string (t.extract 1 (t.size - 1)), .int .i64 p] 32)) HJ.out (hb1.alloc hb1.size _)
          obtain ⟨fn, tmps, assign, body, hy, hR⟩ := HF.out.round _ hJ1
          rw [HT.out, HE.out] at hy
          have HR := Lib.hid hR; clear hR hJ1
          rw [hy, Oper.uponIn_round]
          refine ⟨fun _ => by omega, HR.out.mono ?_⟩
          rintro e W3 (⟨rfl, h1, h2⟩ | ⟨rfl, h1, h2⟩)
          · have h24 : (t.size : Int) ≤ 502 := by rw [HE.out] at h1; exact of_decide_eq_true h1
            have H2 := Lib.hid h2; clear h2 h1
            obtain ⟨c3, hB3⟩ := HX.out _ _ H2.out
            gi_wp2_with (refine ⟨trivial, ?_⟩; gi_at_call 21; refine (callsIn_wide.2 (HF.out.space _)).mono ?_; rintro e w4 ⟨rfl, hb4⟩)
            go_roundw
            case rel => exact ⟨nn, HF.out.nl, by rw [HF.out.nx]; go_num, HG.out _ _ _ H2.out hb4⟩
            case measure => simp [intOf]; omega
          · have H2 := Lib.hid h2; clear h2
            have HE1 : Hid (oo = false) := h1
            clear h1
            gi_wp2
            refine bodyPost_ret (results_none rfl _ _ _) rfl ?_
            exact ⟨⟨_, rfl⟩, .inr ⟨p, hlt, HF.out.oo.trans HE1.out, H2.out⟩⟩
      · have hk1 : (kk == 2) = false := by simpa using hk
        have HT : Hid (textOf kk t = t) := by show _ = _; simp [textOf, hk]
        have HM : Hid (okOf kk t = (decide (t.size ≠ 0) && decide (t.size ≤ 24))) := by show _ = _; simp only [okOf, mostOf, if_neg hk]; congr 1; simp; omega
        clear hk
        by_cases h0 : t.size = 0
        · have hpl : t.toList = [] := by rw [toList_data]; exact List.eq_nil_of_length_eq_zero (by rw [← size_list]; exact h0)
          have hpl2 : (!t.toList.isEmpty) = false := by rw [hpl]; rfl
          clear hpl
          have HE : Hid (oo = false) := by show _ = _; rw [HF.out.ok, HM.out]; simp [h0]
          clear h0
          gi_wp2_with (first | (refine ⟨trivial, ?_⟩; gi_at_call 22; refine (callsIn_wide.2 (HF.out.first _)).mono ?_; rintro e w1 ⟨rfl, hb1⟩; have c1 := (hb1.cell (p := ⟨B, 0, none⟩) hB).trans c0))
          have hJ1 := HG.out p wr (w1.alloc (.cells #[.int .i64 kk, .string t, .int .i64 p] 32)) HJ.out (hb1.alloc hb1.size _)
          obtain ⟨fn, tmps, assign, body, hy, hR⟩ := HF.out.round _ hJ1
          rw [HT.out, HE.out] at hy
          have HR := Lib.hid hR; clear hR hJ1
          rw [hy, Oper.uponIn_round]
          refine ⟨fun _ => by omega, HR.out.mono ?_⟩
          rintro e W3 (⟨rfl, h1, h2⟩ | ⟨rfl, h1, h2⟩)
          · rw [HE.out] at h1; cases h1
          · have H2 := Lib.hid h2; clear h2 h1
            gi_wp2
            refine bodyPost_ret (results_none rfl _ _ _) rfl ?_
            exact ⟨⟨_, rfl⟩, .inr ⟨p, hlt, HF.out.oo.trans HE.out, H2.out⟩⟩
        · have hpl1 : t.toList.isEmpty = false := by
            rw [toList_data]
            cases h : t.data.toList with
            | nil => exact absurd (by rw [size_list, h]; rfl) h0
            | cons _ _ => rfl
          have hpl2 : (!t.toList.isEmpty) = true := by rw [hpl1]; rfl
          have HE : Hid (oo = decide ((t.size : Int) ≤ 24)) := by show _ = _; rw [HF.out.ok, HM.out, decide_eq_true h0, Bool.true_and]; exact decide_eq_decide.2 (by omega)
          have ht0 : 0 < t.size := by omega
          clear h0
          gi_wp2_with (first | (refine ⟨trivial, ?_⟩; gi_at_call 22; refine (callsIn_wide.2 (HF.out.first _)).mono ?_; rintro e w1 ⟨rfl, hb1⟩; have c1 := (hb1.cell (p := ⟨B, 0, none⟩) hB).trans c0))
          have hJ1 := HG.out p wr (w1.alloc (.cells #[.int .i64 kk, .string t, .int .i64 p] 32)) HJ.out (hb1.alloc hb1.size _)
          obtain ⟨fn, tmps, assign, body, hy, hR⟩ := HF.out.round _ hJ1
          rw [HT.out, HE.out] at hy
          have HR := Lib.hid hR; clear hR hJ1
          rw [hy, Oper.uponIn_round]
          refine ⟨fun _ => by omega, HR.out.mono ?_⟩
          rintro e W3 (⟨rfl, h1, h2⟩ | ⟨rfl, h1, h2⟩)
          · have h24 : (t.size : Int) ≤ 24 := by rw [HE.out] at h1; exact of_decide_eq_true h1
            have H2 := Lib.hid h2; clear h2 h1
            obtain ⟨c3, hB3⟩ := HX.out _ _ H2.out
            gi_wp2_with (refine ⟨trivial, ?_⟩; gi_at_call 21; refine (callsIn_wide.2 (HF.out.space _)).mono ?_; rintro e w4 ⟨rfl, hb4⟩)
            go_roundw
            case rel => exact ⟨nn, HF.out.nl, by rw [HF.out.nx]; go_num, HG.out _ _ _ H2.out hb4⟩
            case measure => simp [intOf]; omega
          · have H2 := Lib.hid h2; clear h2
            have HE1 : Hid (oo = false) := h1
            clear h1
            gi_wp2
            refine bodyPost_ret (results_none rfl _ _ _) rfl ?_
            exact ⟨⟨_, rfl⟩, .inr ⟨p, hlt, HF.out.oo.trans HE1.out, H2.out⟩⟩
    · gi_wp2
      go_end0
      exact ⟨⟨_, rfl⟩, .inl ⟨p, by omega, HJ.out⟩⟩
end Go.Proofs.YtjhinmdnabmdoaaDoor.Lex
