/- lex.first where a sign is looked for: a range over strings.SplitSeq. -/
import Derived.Test.YtjhinmdnabmdoaaDoorLexD
import Derived.Test.YtjhinmdnabmdoaaDoorLexR
import Derived.OneCell
import Derived.Shelf.Abstract
import Derived.Shelf.RegionOpen
import Derived.OwnWalkIn
import Derived.TacticsInMore
import Derived.LoopNIn
import Derived.LoopIn
set_option linter.unusedVariables false
set_option linter.unusedSimpArgs false
namespace Go.Proofs.YtjhinmdnabmdoaaDoor.Lex
open Go.RowKit Go.Shelf
attribute [local go_sem] Oper.semAt_some

theorem splitSeq_calls (s t : ByteArray) (w : World) :
    Calls Tryd.prog 42 #[.string s, .string t] w fun e w' => e = .returned (.func (.func 60) #[] #[.pointer (some ⟨w.heap.size + 1, 0, none⟩), .pointer (some ⟨w.heap.size, 0, none⟩), .pointer (some ⟨w.heap.size + 2, 0, none⟩)]) ∧
      w' = ((w.alloc (.cells #[.string s] 9)).alloc (.cells #[.string t] 9)).alloc (.cells #[.int .i64 0] 3) := by
  go_enter Tryd.func42, Tryd.ntmps42
  go_wp2
  go_ret
  exact ⟨rfl, rfl⟩

/-! The signs: what is left to split, the first sign of it. -/
def signsAll : List UInt8 := [60, 61, 32, 62, 61, 32, 61, 61, 32, 33, 61, 32, 123, 32, 125, 32, 40, 32, 41, 32, 44, 32, 59, 32, 58, 32, 61, 32, 43, 32, 45, 32, 42, 32, 47, 32, 37, 32, 60, 32, 62]
def signList : List ByteArray := [⟨#[60, 61]⟩, ⟨#[62, 61]⟩, ⟨#[61, 61]⟩, ⟨#[33, 61]⟩, ⟨#[123]⟩, ⟨#[125]⟩, ⟨#[40]⟩, ⟨#[41]⟩, ⟨#[44]⟩, ⟨#[59]⟩, ⟨#[58]⟩, ⟨#[61]⟩, ⟨#[43]⟩, ⟨#[45]⟩, ⟨#[42]⟩, ⟨#[47]⟩, ⟨#[37]⟩, ⟨#[60]⟩, ⟨#[62]⟩]
/-- What is left when k signs have come. -/
def restAt : Nat → List UInt8
  | 0 => signsAll
  | k + 1 => let l := restAt k; l.drop ((Lib.indexByte l 32).toNat + 1)
def restB (k : Nat) : ByteArray := ⟨(restAt k).toArray⟩
def lenAt (k : Nat) : Nat := (Lib.indexByte (restAt k) 32).toNat
def signAt (k : Nat) : ByteArray := signList.getD k ⟨#[]⟩
theorem restB_list (k : Nat) : (restB k).data.toList = restAt k := by simp [restB]
theorem signs_facts : ∀ k, k < 18 → Lib.indexByte (restAt k) 32 = lenAt k ∧ lenAt k < (restAt k).length ∧ (restAt k).take (lenAt k) = (signAt k).data.toList ∧ (restAt k).drop (lenAt k + 1) = restAt (k + 1) := by decide +kernel
theorem signs_last : Lib.indexByte (restAt 18) 32 = -1 ∧ restAt 18 = (signAt 18).data.toList := by decide +kernel
theorem byte_ext {a b : ByteArray} (h : a.data.toList = b.data.toList) : a = b := by
  cases a; cases b; simp at h; rw [h]
theorem sign_cut (k : Nat) (hk : k < 18) : (restB k).extract 0 (lenAt k) = signAt k := by
  apply byte_ext
  rw [extract_list, List.drop_zero, Nat.sub_zero, restB_list, (signs_facts k hk).2.2.1]
theorem rest_cut (k : Nat) (hk : k < 18) : (restB k).extract (lenAt k + 1) (restB k).size = restB (k + 1) := by
  apply byte_ext
  rw [list_drop, restB_list, restB_list, (signs_facts k hk).2.2.2]
theorem rest_last : restB 18 = signAt 18 := by apply byte_ext; rw [restB_list, signs_last.2]
theorem rest_size (k : Nat) (hk : k < 18) : lenAt k + 1 ≤ (restB k).size ∧ (restB k).size ≤ 41 := by
  have h : ∀ k, k < 18 → lenAt k + 1 ≤ (restAt k).length ∧ (restAt k).length ≤ 41 := by decide +kernel
  rw [size_list, restB_list]; exact h k hk

/-- The world within the range over the signs. -/
structure SG (w : World) (s : ByteArray) (lp : Obj) (rest : ByteArray) (W : World) : Prop where
  below : Below w.heap.size w W
  b0 : W.heap[w.heap.size]? = some (.cells #[.string s] 9 (0, 0))
  b1 : W.heap[w.heap.size + 1]? = some (.cells #[.int .i64 0] 3 (0, 0))
  b2 : W.heap[w.heap.size + 2]? = some (.cells #[.string ⟨#[]⟩] 9 (0, 0))
  b3 : W.heap[w.heap.size + 3]? = some (.cells #[.string rest] 9 (0, 0))
  b4 : W.heap[w.heap.size + 4]? = some (.cells #[.string ⟨#[32]⟩] 9 (0, 0))
  b5 : W.heap[w.heap.size + 5]? = some (.cells #[.int .i64 0] 3 (0, 0))
  b6 : W.heap[w.heap.size + 6]? = some (.deferred (some []))
  b7 : W.heap[w.heap.size + 7]? = some lp
/-- The world where a round has returned: the sign is in the results' cells. -/
structure SX (w : World) (lp : Obj) (sign : ByteArray) (W : World) : Prop where
  below : Below w.heap.size w W
  b1 : W.heap[w.heap.size + 1]? = some (.cells #[.int .i64 3] 3 (0, 0))
  b2 : W.heap[w.heap.size + 2]? = some (.cells #[.string sign] 9 (0, 0))
  b6 : W.heap[w.heap.size + 6]? = some (.deferred (some []))
  b7 : W.heap[w.heap.size + 7]? = some lp

theorem below_putObj {B : Nat} {a w : World} (h : Below B a w) {r : Nat} (hr : B ≤ r) (o : Obj) : Below B a (w.putObj r o) :=
  h.trans ⟨rfl, rfl, rfl, by simp, fun k hk => World.putObj_heap_other (by omega)⟩

theorem heap_setCell_ne {W : World} {b : Nat} {p : Addr} {v : Value} {o : Obj} (h : W.heap[b]? = some o) (hb : b ≠ p.block) : (W.setCell p v).heap[b]? = some o := (Below.heap_setCell W p v b hb).trans h
theorem heap_putObj_ne {W : World} {b r : Nat} {o o' : Obj} (h : W.heap[b]? = some o) (hb : b ≠ r) : (W.putObj r o').heap[b]? = some o := (World.putObj_heap_other hb).trans h

theorem SG.put {w : World} {s : ByteArray} {lp : Obj} {rest : ByteArray} {W : World} (h : SG w s lp rest W) (lp' : Obj) : SG w s lp' rest (W.putObj (w.heap.size + 7) lp') :=
  ⟨below_putObj h.below (by omega) _, heap_putObj_ne h.b0 (by omega), heap_putObj_ne h.b1 (by omega), heap_putObj_ne h.b2 (by omega), heap_putObj_ne h.b3 (by omega), heap_putObj_ne h.b4 (by omega), heap_putObj_ne h.b5 (by omega), heap_putObj_ne h.b6 (by omega), World.putObj_heap_same (lt_of_block h.b7)⟩
theorem SG.set {w : World} {s : ByteArray} {lp : Obj} {rest : ByteArray} {W : World} (h : SG w s lp rest W) (r : ByteArray) : SG w s lp r (W.setCell ⟨w.heap.size + 3, 0, none⟩ (.string r)) :=
  ⟨h.below.setCell (p := ⟨w.heap.size + 3, 0, none⟩) (by show _ ≤ w.heap.size + 3; omega) _, heap_setCell_ne h.b0 (by show _ ≠ w.heap.size + 3; omega), heap_setCell_ne h.b1 (by show _ ≠ w.heap.size + 3; omega), heap_setCell_ne h.b2 (by show _ ≠ w.heap.size + 3; omega), one_setCell h.b3, heap_setCell_ne h.b4 (by show _ ≠ w.heap.size + 3; omega), heap_setCell_ne h.b5 (by show _ ≠ w.heap.size + 3; omega), heap_setCell_ne h.b6 (by show _ ≠ w.heap.size + 3; omega), heap_setCell_ne h.b7 (by show _ ≠ w.heap.size + 3; omega)⟩

theorem SX.put {w : World} {lp : Obj} {sign : ByteArray} {W : World} (h : SX w lp sign W) (lp' : Obj) : SX w lp' sign (W.putObj (w.heap.size + 7) lp') :=
  ⟨below_putObj h.below (by omega) _, heap_putObj_ne h.b1 (by omega), heap_putObj_ne h.b2 (by omega), heap_putObj_ne h.b6 (by omega), World.putObj_heap_same (lt_of_block h.b7)⟩

theorem SG.stored {w : World} {s : ByteArray} {lp : Obj} {rest : ByteArray} {W2 : World} (hgx : SG w s lp rest W2) (sign : ByteArray) : SX w lp sign ((W2.setCell ⟨w.heap.size + 1, 0, none⟩ (.int .i64 3)).setCell ⟨w.heap.size + 2, 0, none⟩ (.string sign)) :=
  ⟨(hgx.below.setCell (p := ⟨w.heap.size + 1, 0, none⟩) (by show _ ≤ w.heap.size + 1; omega) _).setCell (p := ⟨w.heap.size + 2, 0, none⟩) (by show _ ≤ w.heap.size + 2; omega) _, heap_setCell_ne (one_setCell hgx.b1) (by show _ ≠ w.heap.size + 2; omega), one_setCell (heap_setCell_ne hgx.b2 (by show _ ≠ w.heap.size + 1; omega)), heap_setCell_ne (heap_setCell_ne hgx.b6 (by show _ ≠ w.heap.size + 1; omega)) (by show _ ≠ w.heap.size + 2; omega), heap_setCell_ne (heap_setCell_ne hgx.b7 (by show _ ≠ w.heap.size + 1; omega)) (by show _ ≠ w.heap.size + 2; omega)⟩
theorem sx_leaves {w : World} {lp : Obj} {sign : ByteArray} {W : World} (h : SX w lp sign W) {a : Act} (hd : a.defers = [{ target := .collected (w.heap.size + 6), args := #[] }])
    (h2 : a.tmps.getD 2 undef = .pointer (some ⟨w.heap.size + 1, 0, none⟩)) (h3 : a.tmps.getD 3 undef = .pointer (some ⟨w.heap.size + 2, 0, none⟩)) :
    bodyPostM Fence.wide 3 Tryd.prog Tryd.f22 (fun e w' => e = .returned (.tuple #[.int .i64 3, .string sign]) ∧ Below w.heap.size w w') .ret a W := by
  have h1 : ((W.putObj (w.heap.size + 6) (.deferred none))).cell? ⟨w.heap.size + 1, 0, none⟩ = some (.int .i64 3) := cell_of_one (heap_putObj_ne h.b1 (by omega))
  have h2' : ((W.putObj (w.heap.size + 6) (.deferred none))).cell? ⟨w.heap.size + 2, 0, none⟩ = some (.string sign) := cell_of_one (heap_putObj_ne h.b2 (by omega))
  show LeavesInM _ _ _ _ _ _ a.defers _ _
  rw [hd]
  refine ⟨by simp, .inl ⟨_, _, rfl, run_takeDeferred h.b6, ?_⟩⟩
  refine ⟨.tuple #[.int .i64 3, .string sign], ?_, rfl, below_putObj h.below (by omega) _⟩
  simp only [Array.getD_eq_getD_getElem?] at h2 h3
  simp [results, Tryd.results22, go_sem, h1, h2', h2, h3]

def indexAt (r : ByteArray) : Int := Lib.indexByte r.data.toList 32
theorem index_one (r : ByteArray) (w : World) : Calls Tryd.prog 61 #[.string r, .string ⟨#[32]⟩] w fun e w' => e = .returned (.int .i64 (indexAt r)) ∧ w' = w := Tryd.strings_Index_one r 32 w

/-- What the iterator leaves. -/
def SignPost (w : World) (s : ByteArray) (lp lpx : Obj) (e : Ending) (W : World) : Prop :=
  (∃ v, e = .returned v) ∧ ((∃ r, SG w s lp r W ∧ ∀ j, j < 19 → hpB s (signAt j) = false) ∨ (∃ k, k < 19 ∧ hpB s (signAt k) = true ∧ (∀ j, j < k → hpB s (signAt j) = false) ∧ SX w lpx (signAt k) W))

/-- What a round says. -/
def SignRound (w : World) (s : ByteArray) (lp lpx : Obj) (r sign : ByteArray) (e : Ending) (W : World) : Prop :=
  (e = .returned (.bool true) ∧ hpB s sign = false ∧ SG w s lp r W) ∨ (e = .returned (.bool false) ∧ hpB s sign = true ∧ SX w lpx sign W)

set_option maxHeartbeats 1000000 in
theorem split_iter (w : World) (s : ByteArray) (lp lpx : Obj) (l : Nat)
    (hY : ∀ (r sign : ByteArray) (W : World), sign.size ≤ 41 → SG w s lp r W → YieldAt Fence.wide 1 Tryd.prog l #[.string sign] W (SignRound w s lp lpx r sign))
    (W : World) (h0 : SG w s lp (restB 0) W) :
    CallsIn Fence.wide 2 Tryd.prog 60 (#[.func (.yield l) #[] #[]] ++ #[.pointer (some ⟨w.heap.size + 4, 0, none⟩), .pointer (some ⟨w.heap.size + 3, 0, none⟩), .pointer (some ⟨w.heap.size + 5, 0, none⟩)]) W (SignPost w s lp lpx) := by
  have HY := Lib.hid hY; clear hY
  refine callsIn_of_wp Tryd.func60 rfl trivial ?_ rfl
  simp only [Tryd.ntmps60, List.size_toArray, List.length_cons, List.length_nil, Nat.reduceAdd, Nat.reduceSub, Array.replicate_succ, Array.replicate_zero, List.push_toArray, List.append_toArray, List.nil_append, List.cons_append]
  have c4 := cell_of_one h0.b4
  have H0 := Lib.hid h0; clear h0
  gi_wp2
  clear c4
  gi_loopw [7, 8] (fun _ _ wr => ∃ k : Nat, k < 19 ∧ Hid (∀ j, j < k → hpB s (signAt j) = false) ∧ Hid (SG w s lp (restB k) wr)) (fun _ _ wr => strLen ((wr.cell? ⟨w.heap.size + 3, 0, none⟩).getD undef))
  case atStart => exact ⟨0, by omega, fun j hj => absurd hj (by omega), H0.out⟩
  case round =>
    obtain ⟨k, hk, HN, HG⟩ := hrel
    have c3 := cell_of_one HG.out.b3
    have f3 := free_of_one HG.out.b3
    have c4 := cell_of_one HG.out.b4
    have c5 := cell_of_one HG.out.b5
    by_cases h18 : k < 18
    · have hz := rest_size k h18
      have HI : Hid (indexAt (restB k) = (lenAt k : Int)) := by show _ = _; unfold indexAt; rw [restB_list]; exact (signs_facts k h18).1
      have HC := Lib.hid (sign_cut k h18)
      have HR := Lib.hid (rest_cut k h18)
      have hsz : (signAt k).size ≤ 41 := by rw [← sign_cut k h18]; simp; omega
      have hy := HY.out (restB k) (signAt k) wr hsz HG.out
      rw [← HC.out] at hy
      obtain ⟨fn, tmps, assign, body, hy, hR⟩ := hy
      rw [HC.out] at hR
      have HRR := Lib.hid hR; clear hR hsz
      generalize hr : restB k = r at *
      generalize ho : lenAt k = o at *
      have HO := Lib.hid ho; have HR0 := Lib.hid hr; clear ho hr
      obtain ⟨ho1, ho2⟩ := hz
      gi_wp2_with (refine ⟨trivial, ?_⟩; gi_at_call 61; refine (callsIn_wide.2 (index_one _ _)).mono ?_; rw [HI.out]; rintro e w2 ⟨rfl, rfl⟩)
      refine HRR.out.mono ?_
      rintro e W3 (⟨rfl, hno, hg3⟩ | ⟨rfl, hyes, hx3⟩)
      · have d3 := cell_of_one hg3.b3
        have g3 := free_of_one hg3.b3
        have d4 := cell_of_one hg3.b4
        have d5 := cell_of_one hg3.b5
        have HG3 := Lib.hid hg3; clear hg3
        have HNO := Lib.hid hno; clear hno
        gi_wp2
        go_roundw
        case rel =>
          refine ⟨k + 1, by omega, ?_, ?_⟩
          · intro j hj
            rcases Nat.lt_or_ge j k with h | h
            · exact HN.out j h
            · obtain rfl : j = k := by omega
              exact HNO.out
          · show SG w s lp (restB (k + 1)) _
            have := HG3.out.set (r.extract (o + 1) r.size)
            rw [HR.out] at this ⊢
            exact this
        case measure =>
          rw [World.cell?_setCell_same' _ _ _ (by rw [d3]; rfl), c3]
          simp [strLen]; omega
      · have HX3 := Lib.hid hx3; clear hx3
        have HYES := Lib.hid hyes; clear hyes
        gi_wp2
        refine bodyPost_ret (results_none rfl _ _ _) rfl ?_
        exact ⟨⟨_, rfl⟩, .inr ⟨k, hk, HYES.out, HN.out, HX3.out⟩⟩
    · obtain rfl : k = 18 := by omega
      have HI : Hid (indexAt (restB 18) = -1) := by show _ = _; unfold indexAt; rw [restB_list]; exact signs_last.1
      have hy := HY.out (restB 18) (signAt 18) wr (by decide) HG.out
      rw [← rest_last] at hy
      obtain ⟨fn, tmps, assign, body, hy, hR⟩ := hy
      have HRR := Lib.hid hR; clear hR
      have hl := Lib.hid rest_last
      generalize hr : restB 18 = r at *
      have HR0 := Lib.hid hr; clear hr
      gi_wp2_with (refine ⟨trivial, ?_⟩; gi_at_call 61; refine (callsIn_wide.2 (index_one _ _)).mono ?_; rw [HI.out]; rintro e w2 ⟨rfl, rfl⟩)
      refine HRR.out.mono ?_
      rintro e W3 (⟨rfl, hno, hg3⟩ | ⟨rfl, hyes, hx3⟩)
      · have HG3 := Lib.hid hg3; clear hg3
        have HNO := Lib.hid hno; clear hno
        gi_wp2
        go_end0
        refine ⟨⟨_, rfl⟩, .inl ⟨r, HG3.out, fun j hj => ?_⟩⟩
        rcases Nat.lt_or_ge j 18 with h | h
        · exact HN.out j h
        · obtain rfl : j = 18 := by omega
          rw [← hl.out]; exact HNO.out
      · have HX3 := Lib.hid hx3; clear hx3
        have HYES := Lib.hid hyes; clear hyes
        gi_wp2
        go_end0
        refine ⟨⟨_, rfl⟩, .inr ⟨18, by omega, ?_, HN.out, ?_⟩⟩
        · rw [← hl.out]; exact HYES.out
        · rw [← hl.out]; exact HX3.out

/-- The first sign at the beginning; empty: none. -/
def signB (s : ByteArray) : ByteArray := (signList.find? (hpB s ·)).getD ⟨#[]⟩
theorem sign_get (j : Nat) (h : j < 19) : signList[j]? = some (signAt j) := by
  have : j < signList.length := h
  unfold signAt
  rw [List.getD_eq_getElem?_getD, List.getElem?_eq_getElem this]; rfl
theorem signB_none (s : ByteArray) (h : ∀ j, j < 19 → hpB s (signAt j) = false) : signB s = ⟨#[]⟩ := by
  unfold signB
  have : signList.find? (hpB s ·) = none := by
    rw [List.find?_eq_none]
    intro x hx
    obtain ⟨j, hj⟩ := List.getElem?_of_mem hx
    have hj2 : j < 19 := by
      rcases Nat.lt_or_ge j 19 with h2 | h2
      · exact h2
      · rw [List.getElem?_eq_none (by exact h2)] at hj; cases hj
    rw [sign_get j hj2] at hj
    cases hj
    rw [h j hj2]; simp
  rw [this]; rfl
theorem signB_some (s : ByteArray) (k : Nat) (hk : k < 19) (hy : hpB s (signAt k) = true) (h : ∀ j, j < k → hpB s (signAt j) = false) : signB s = signAt k := by
  unfold signB
  have : signList.find? (hpB s ·) = some (signAt k) := by
    rw [List.find?_eq_some_iff_getElem]
    refine ⟨hy, k, hk, ?_, ?_⟩
    · have := sign_get k hk
      rw [List.getElem?_eq_getElem hk] at this
      exact Option.some.inj this
    · intro j hj
      have h1 := sign_get j (by omega)
      rw [List.getElem?_eq_getElem (show j < signList.length from Nat.lt_trans hj hk)] at h1
      rw [Option.some.inj h1, h j hj]; rfl
  rw [this]; rfl

theorem heap_alloc_old {W : World} {b : Nat} {o o' : Obj} (h : W.heap[b]? = some o) : (W.alloc o').heap[b]? = some o := (Below.heap_alloc W o' b (lt_of_block h)).trans h
theorem heap_alloc_at {W : World} {b : Nat} (o : Obj) (h : W.heap.size = b) : (W.alloc o).heap[b]? = some o := by rw [← h]; exact World.alloc_heap_new W o
theorem sg_start (w : World) (s : ByteArray) (lp : Obj) : SG w s lp (restB 0) ((((((((w.alloc (.cells #[.string s] 9)).alloc (.cells #[.int .i64 0] 3)).alloc (.cells #[.string ⟨#[]⟩] 9)).alloc (.cells #[.string (restB 0)] 9)).alloc (.cells #[.string ⟨#[32]⟩] 9)).alloc (.cells #[.int .i64 0] 3)).alloc (.deferred (some []))).alloc lp) := by
  refine ⟨?_, ?_, ?_, ?_, ?_, ?_, ?_, ?_, ?_⟩
  · exact (((((((((Below.refl _ _).alloc (Nat.le_refl _) _).alloc (by simp) _).alloc (by simp; omega) _).alloc (by simp; omega) _).alloc (by simp; omega) _).alloc (by simp; omega) _).alloc (by simp; omega) _).alloc (by simp; omega) _)
  · exact heap_alloc_old (heap_alloc_old (heap_alloc_old (heap_alloc_old (heap_alloc_old (heap_alloc_old (heap_alloc_old (heap_alloc_at _ rfl)))))))
  · exact heap_alloc_old (heap_alloc_old (heap_alloc_old (heap_alloc_old (heap_alloc_old (heap_alloc_old (heap_alloc_at _ (by simp)))))))
  · exact heap_alloc_old (heap_alloc_old (heap_alloc_old (heap_alloc_old (heap_alloc_old (heap_alloc_at _ (by simp))))))
  · exact heap_alloc_old (heap_alloc_old (heap_alloc_old (heap_alloc_old (heap_alloc_at _ (by simp)))))
  · exact heap_alloc_old (heap_alloc_old (heap_alloc_old (heap_alloc_at _ (by simp))))
  · exact heap_alloc_old (heap_alloc_old (heap_alloc_at _ (by simp)))
  · exact heap_alloc_old (heap_alloc_at _ (by simp))
  · exact heap_alloc_at _ (by simp)

set_option maxHeartbeats 1000000 in
theorem first_sign (s : ByteArray) (hs : s.size ≤ maxLen) (h0 : 0 < s.size) (hc : letterB s[0].toNat = false) (hd : digitB s[0].toNat = false) (hq : ((s[0].toNat : Int) == 34) = false) (w : World) :
    Calls Tryd.prog 22 #[.string s] w fun e w' => e = .returned (.tuple #[.int .i64 3, .string (signB s)]) ∧ Below w.heap.size w w' := by
  have HS := Lib.hid hs
  have H := Lib.hid hc; clear hc
  have HD := Lib.hid hd; clear hd
  unfold maxLen at hs
  refine (callsIn_wide (n := 3)).1 ?_
  refine callsIn_of_wp_marks Tryd.func22 rfl trivial ?_ rfl
  simp only [Tryd.ntmps22, List.size_toArray, List.length_cons, List.length_nil, Nat.reduceAdd, Nat.reduceSub, Array.replicate_succ, Array.replicate_zero, List.push_toArray, List.append_toArray, List.nil_append, List.cons_append]
  gi_wp2_with (first | (refine ⟨trivial, ?_⟩; gi_at_call 36; refine (callsIn_wide.2 (letter_calls _ _)).mono ?_; rw [H.out]; rintro e w' ⟨rfl, rfl⟩) | (refine ⟨trivial, ?_⟩; gi_at_call 39; refine (callsIn_wide.2 (digit_calls _ _)).mono ?_; rw [HD.out]; rintro e w' ⟨rfl, rfl⟩) | (refine ⟨trivial, ?_⟩; gi_at_call 42; refine (callsIn_wide.2 (splitSeq_calls _ _ _)).mono ?_; rintro e w' ⟨rfl, rfl⟩))
  generalize hW0 : ((((((w.alloc (.cells #[.string s] 9)).alloc (.cells #[.int .i64 0] 3)).alloc (.cells #[.string ⟨#[]⟩] 9)).alloc (.cells #[.string ⟨#[60, 61, 32, 62, 61, 32, 61, 61, 32, 33, 61, 32, 123, 32, 125, 32, 40, 32, 41, 32, 44, 32, 59, 32, 58, 32, 61, 32, 43, 32, 45, 32, 42, 32, 47, 32, 37, 32, 60, 32, 62]⟩] 9)).alloc (.cells #[.string ⟨#[32]⟩] 9)).alloc (.cells #[.int .i64 0] 3)) = W0
  have hz : W0.heap.size = w.heap.size + 6 := by rw [← hW0]; simp
  have HS0 : Hid (∀ lp : Obj, SG w s lp (restB 0) ((W0.alloc (.deferred (some []))).alloc lp)) := fun lp => by
    subst hW0
    exact sg_start w s lp
  refine range_law rfl (by omega) (gf := 60) (lb := #[.pointer (some ⟨w.heap.size + 4, 0, none⟩), .pointer (some ⟨w.heap.size + 3, 0, none⟩), .pointer (some ⟨w.heap.size + 5, 0, none⟩)]) rfl trivial (enters_of Tryd.func60 (by kernel_rfl) rfl) ?_
  intro fn _ rc hrc
  rw [hz] at hrc ⊢
  clear hW0
  have HRC := Lib.hid hrc; clear hrc
  refine (split_iter w s (.loop (rc .ready none)) (.loop (rc .done (some .ret))) _ ?round _ (HS0.out _)).mono ?after
  case round =>
    intro r sign W hsz hg
    refine round_law HRC.out trivial hg.b7 rfl ?_
    have HG := Lib.hid hg; clear hg
    gi_wp2
    refine ⟨HG.out.b7, ?_⟩
    have hg2 := HG.out.put (.loop (rc .busy none))
    generalize W.putObj (w.heap.size + 7) (.loop (rc .busy none)) = W2 at hg2 ⊢
    clear HG
    have c0 := cell_of_one hg2.b0
    have c1 := cell_of_one hg2.b1
    have f1 := free_of_one hg2.b1
    have c2 := cell_of_one hg2.b2
    have f2 := free_of_one hg2.b2
    have HG2 := Lib.hid hg2; clear hg2
    cases hh : hpB s sign
    · have HH := Lib.hid hh; clear hh
      gi_wp2_with (refine ⟨trivial, ?_⟩; gi_at_call 34; refine (CallsIn.inRound _ (callsIn_wide.2 (hasPrefix_calls _ _ HS.out (by unfold maxLen; omega) _))).mono ?_; rw [HH.out]; rintro e w' ⟨rfl, rfl⟩)
      exact ⟨HG2.out.b7, .inl ⟨rfl, HH.out, HG2.out.put _⟩⟩
    · have HH := Lib.hid hh; clear hh
      gi_wp2_with (refine ⟨trivial, ?_⟩; gi_at_call 34; refine (CallsIn.inRound _ (callsIn_wide.2 (hasPrefix_calls _ _ HS.out (by unfold maxLen; omega) _))).mono ?_; rw [HH.out]; rintro e w' ⟨rfl, rfl⟩)
      have hgx := HG2.out
      refine ⟨heap_setCell_ne (heap_setCell_ne hgx.b7 (by show _ ≠ w.heap.size + 1; omega)) (by show _ ≠ w.heap.size + 2; omega), .inr ⟨rfl, HH.out, ?_⟩⟩
      exact (hgx.stored sign).put _
  case after =>
    rintro e W ⟨⟨v, rfl⟩, (⟨r, hg, hno⟩ | ⟨k, hk, hyes, hno, hx⟩)⟩
    · refine ⟨⟨_, rfl⟩, .inl ⟨hg.b7, ?_⟩⟩
      have hg2 := hg.put (.loop (rc .exhausted none))
      generalize W.putObj (w.heap.size + 7) (.loop (rc .exhausted none)) = W2 at hg2 ⊢
      have HB := Lib.hid (signB_none s hno)
      clear hg hno HRC
      have c1 := cell_of_one hg2.b1
      have f1 := free_of_one hg2.b1
      have c2 := cell_of_one hg2.b2
      have f2 := free_of_one hg2.b2
      have HG2 := Lib.hid hg2; clear hg2
      gi_wp2
      have g1 : SX w (.loop (rc .exhausted none)) ⟨#[]⟩ ((W2.setCell ⟨w.heap.size + 1, 0, none⟩ (.int .i64 3)).setCell ⟨w.heap.size + 2, 0, none⟩ (.string ⟨#[]⟩)) := HG2.out.stored _
      rw [HB.out]
      exact sx_leaves g1 rfl rfl rfl
    · refine ⟨⟨_, rfl⟩, .inr ⟨.ret, hx.b7, ?_⟩⟩
      have hg2 := hx.put (.loop (rc .exhausted (some .ret)))
      generalize W.putObj (w.heap.size + 7) (.loop (rc .exhausted (some .ret))) = W2 at hg2 ⊢
      have HB := Lib.hid (signB_some s k hk hyes hno)
      clear hx hno HRC hyes
      gi_wp2
      rw [HB.out]
      exact sx_leaves hg2 rfl rfl rfl

end Go.Proofs.YtjhinmdnabmdoaaDoor.Lex
