/- lex.Scan. -/
import Derived.Test.YtjhinmdnabmdoaaDoorLexF
import Derived.RangeFuncBox
import Derived.Maps.AppendAt
set_option linter.unusedVariables false
set_option linter.unusedSimpArgs false
namespace Go.Proofs.YtjhinmdnabmdoaaDoor.Lex
open Go.RowKit Go.Shelf
attribute [local go_sem] Oper.semAt_some

/-- A token: its kind, its text, its offset. -/
abbrev Tok := Int × ByteArray × Int
def tokCells1 (t : Tok) : List Value := [.int .i64 t.1, .string t.2.1, .int .i64 t.2.2]
def tokCells (l : List Tok) : List Value := l.flatMap tokCells1
def tokAt (s : ByteArray) (p : Nat) : Tok := (kAt s p, textOf (kAt s p) (tAt s p), (p : Int))
def endTok (s : ByteArray) : Tok := (4, ⟨#[]⟩, (s.size : Int))
def scanGo (s : ByteArray) : Nat → Nat → List Tok → List Tok × Int × Int
  | 0, _, acc => (acc ++ [endTok s], 0, 0)
  | f + 1, p, acc => if p < s.size then (if okAt s p = true then scanGo s f (nextAt s p) (acc ++ [tokAt s p]) else ([], 2, (p : Int))) else (acc ++ [endTok s], 0, 0)
/-- What Scan returns. -/
def scanV (s : ByteArray) : List Tok × Int × Int := if s.size > 65536 then ([], 8, 0) else scanGo s (s.size + 1) (spaceN s) []

theorem ok_pos (s : ByteArray) (p : Nat) (h : okAt s p = true) : p < nextAt s p := by
  unfold okAt okOf at h
  rw [Bool.and_eq_true] at h
  have := of_decide_eq_true h.1
  unfold nextAt
  omega
theorem tokCells_snoc (l : List Tok) (t : Tok) : tokCells (l ++ [t]) = tokCells l ++ tokCells1 t := by simp [tokCells]

theorem info32 : (Tryd.prog.info? 32).map (fun i => (i.zero, i.size, i.bytes)) = some (some (.agg #[.int .i64 0, .string ⟨#[]⟩, .int .i64 0]), 3, 32) := by kernel_rfl

/-- Within the range over the tokens. -/
structure SJ (w : World) (s : ByteArray) (lp : Obj) (p : Nat) (acc : List Tok) (v : Value) (W : World) : Prop where
  below : Below w.heap.size w W
  b0 : W.heap[w.heap.size]? = some (.cells #[.slice none 0 0] 22 (0, 0))
  b1 : W.heap[w.heap.size + 1]? = some (.cells #[.int .i64 0] 25 (0, 0))
  b2 : W.heap[w.heap.size + 2]? = some (.cells #[.int .i64 0] 3 (0, 0))
  b3 : Boxed W (w.heap.size + 3) 22 v
  b4 : W.heap[w.heap.size + 4]? = some (.cells #[.string s] 9 (0, 0))
  b5 : W.heap[w.heap.size + 5]? = some (.deferred (some []))
  b6 : W.heap[w.heap.size + 6]? = some lp
  row : W.ownsRow w.heap.size 32 3 v acc.length (tokCells acc)
  len : acc.length ≤ p
  go : ∀ f, s.size - p < f → scanGo s f p acc = scanV s
/-- A round has returned: the results' cells hold the error. -/
structure SE (w : World) (s : ByteArray) (lp : Obj) (p : Nat) (W : World) : Prop where
  below : Below w.heap.size w W
  b0 : W.heap[w.heap.size]? = some (.cells #[.slice none 0 0] 22 (0, 0))
  b1 : W.heap[w.heap.size + 1]? = some (.cells #[.int .i64 2] 25 (0, 0))
  b2 : W.heap[w.heap.size + 2]? = some (.cells #[.int .i64 p] 3 (0, 0))
  b5 : W.heap[w.heap.size + 5]? = some (.deferred (some []))
  b6 : W.heap[w.heap.size + 6]? = some lp
  val : scanV s = ([], 2, (p : Int))

theorem block_below {W W' : World} (h : Below W.heap.size W W') {b : Nat} {o : Obj} (hb : W.heap[b]? = some o) : W'.heap[b]? = some o := (h.block b (lt_of_block hb)).trans hb

theorem SJ.grow {w : World} {s : ByteArray} {lp : Obj} {p : Nat} {acc : List Tok} {v : Value} {W W' : World} (h : SJ w s lp p acc v W) (hb : Below W.heap.size W W') : SJ w s lp p acc v W' :=
  ⟨h.below.trans (hb.mono h.below.size), block_below hb h.b0, block_below hb h.b1, block_below hb h.b2, block_below hb h.b3, block_below hb h.b4, block_below hb h.b5, block_below hb h.b6,
   h.row.kept (row := none) ⟨hb.os, hb.tape, hb.output, hb.size, fun k hk _ => hb.block k hk⟩ (by
     rcases h.row.2 with ⟨rfl, _⟩ | ⟨g, cap, cur, rfl, _⟩
     · exact .inl rfl
     · exact .inr (by simp [Value.ownBlock])), h.len, h.go⟩
theorem SJ.put {w : World} {s : ByteArray} {lp : Obj} {p : Nat} {acc : List Tok} {v : Value} {W : World} (h : SJ w s lp p acc v W) (hl : lp.isCells = false) (lp' : Obj) : SJ w s lp' p acc v (W.putObj (w.heap.size + 6) lp') :=
  ⟨below_putObj h.below (by omega) _, heap_putObj_ne h.b0 (by omega), heap_putObj_ne h.b1 (by omega), heap_putObj_ne h.b2 (by omega), heap_putObj_ne h.b3 (by omega), heap_putObj_ne h.b4 (by omega), heap_putObj_ne h.b5 (by omega), World.putObj_heap_same (lt_of_block h.b6), ownsRow_putObj h.row _ h.b6 hl, h.len, h.go⟩
theorem SE.put {w : World} {s : ByteArray} {lp : Obj} {p : Nat} {W : World} (h : SE w s lp p W) (lp' : Obj) : SE w s lp' p (W.putObj (w.heap.size + 6) lp') :=
  ⟨below_putObj h.below (by omega) _, heap_putObj_ne h.b0 (by omega), heap_putObj_ne h.b1 (by omega), heap_putObj_ne h.b2 (by omega), heap_putObj_ne h.b5 (by omega), World.putObj_heap_same (lt_of_block h.b6), h.val⟩

theorem scan_fuel (s : ByteArray) : ∀ (f g p : Nat) (acc : List Tok), s.size - p < f → s.size - p < g → scanGo s f p acc = scanGo s g p acc := by
  intro f
  induction f with
  | zero => intro g p acc h; omega
  | succ f ih =>
    intro g p acc h h2
    cases g with
    | zero => omega
    | succ g =>
      simp only [scanGo]
      by_cases hp : p < s.size
      · rw [if_pos hp, if_pos hp]
        by_cases ho : okAt s p = true
        · rw [if_pos ho, if_pos ho]
          have := ok_pos s p ho
          exact ih g _ _ (by omega) (by omega)
        · rw [if_neg ho, if_neg ho]
      · rw [if_neg hp, if_neg hp]
def ScanPost (w : World) (s : ByteArray) (e : Ending) (W : World) : Prop :=
  ∃ v, e = .returned (.tuple #[v, .int .i64 (scanV s).2.1, .int .i64 (scanV s).2.2]) ∧ W.ownsRow w.heap.size 32 3 v (scanV s).1.length (tokCells (scanV s).1) ∧ Below w.heap.size w W

theorem scan_long (s : ByteArray) (hs : s.size ≤ maxLen) (h : s.size > 65536) (w : World) : Calls Tryd.prog 10 #[.string s] w (ScanPost w s) := by
  unfold maxLen at hs
  have hv : Hid (scanV s = ([], 8, 0)) := by show _ = _; simp [scanV, h]
  go_enter Tryd.func10, Tryd.ntmps10
  go_wp2
  refine bodyPost_ret (v := .tuple #[.slice none 0 0, .int .i64 8, .int .i64 0]) (by simp [results, Tryd.results10, go_sem]) rfl ⟨.slice none 0 0, by rw [hv.out], by rw [hv.out]; exact World.ownsRow_nil _ _ _ _, below3 _ _ _ _⟩

theorem sj_start (w : World) (s : ByteArray) (lp : Obj) (hs : s.size ≤ 65536) : SJ w s lp (spaceN s) [] (.slice none 0 0) (((((((w.alloc (.cells #[.slice none 0 0] 22)).alloc (.cells #[.int .i64 0] 25)).alloc (.cells #[.int .i64 0] 3)).alloc (.cells #[.slice none 0 0] 22)).alloc (.cells #[.string s] 9)).alloc (.deferred (some []))).alloc lp) := by
  refine ⟨?_, ?_, ?_, ?_, ?_, ?_, ?_, ?_, World.ownsRow_nil _ _ _ _, Nat.zero_le _, ?_⟩
  · exact ((((((((Below.refl _ _).alloc (Nat.le_refl _) _).alloc (by simp) _).alloc (by simp; omega) _).alloc (by simp; omega) _).alloc (by simp; omega) _).alloc (by simp; omega) _).alloc (by simp; omega) _)
  · exact heap_alloc_old (heap_alloc_old (heap_alloc_old (heap_alloc_old (heap_alloc_old (heap_alloc_old (heap_alloc_at _ rfl))))))
  · exact heap_alloc_old (heap_alloc_old (heap_alloc_old (heap_alloc_old (heap_alloc_old (heap_alloc_at _ (by simp))))))
  · exact heap_alloc_old (heap_alloc_old (heap_alloc_old (heap_alloc_old (heap_alloc_at _ (by simp)))))
  · exact heap_alloc_old (heap_alloc_old (heap_alloc_old (heap_alloc_at _ (by simp))))
  · exact heap_alloc_old (heap_alloc_old (heap_alloc_at _ (by simp)))
  · exact heap_alloc_old (heap_alloc_at _ (by simp))
  · exact heap_alloc_at _ (by simp)
  · intro f hf
    have : scanV s = scanGo s (s.size + 1) (spaceN s) [] := by unfold scanV; rw [if_neg (by omega)]
    rw [this]
    exact scan_fuel s _ _ _ _ hf (by omega)

theorem cell_new3 (W : World) (a b c : Value) (t : TypeId) : ∀ (j : Nat) (u : Value), [a, b, c][j]? = some u → (W.alloc (.cells #[a, b, c] t)).cell? ((⟨W.heap.size, 0, none⟩ : Addr).add j) = some u := by
  intro j u h
  have e : (⟨W.heap.size, 0, none⟩ : Addr).add j = ⟨W.heap.size, j, none⟩ := by unfold Addr.add; split <;> simp_all
  rw [e]
  have := World.alloc_heap_new W (.cells #[a, b, c] t)
  rcases j with _ | _ | _ | j
  · simp at h; subst h; simp only [World.cell?, this]; rfl
  · simp at h; subst h; simp only [World.cell?, this]; rfl
  · simp at h; subst h; simp only [World.cell?, this]; rfl
  · simp at h
theorem keep_block {W2 w1 : World} {n0 k : Nat} {v : Value} {xs : List Value} {tmp : Obj} (hrow : W2.ownsRow n0 32 3 v k xs) (hgrow : (W2.alloc tmp).grownBy w1 v.ownBlock) {b : Nat} {o : Obj} (hb : W2.heap[b]? = some o) (ho : ∀ cs, o ≠ .cells cs 32 (0, 0)) : w1.heap[b]? = some o := by
  refine (hgrow.block b (by have := lt_of_block hb; simp; omega) ?_).trans (heap_alloc_old hb)
  rcases hrow.2 with ⟨rfl, _⟩ | ⟨g, cap, cur, rfl, _, hg, _⟩
  · simp [Value.ownBlock]
  · intro e
    obtain rfl : b = g := by simpa [Value.ownBlock] using e
    rw [hb] at hg
    exact ho cur (Option.some.inj hg)
theorem SJ.appended {w : World} {s : ByteArray} {rc : Loop} {p : Nat} {acc : List Tok} {v v' : Value} {W2 w1 : World} {tmp : Obj} (h : SJ w s (.loop rc) p acc v W2) (hp : p < s.size) (hok : okAt s p = true)
    (hown : w1.ownsRow w.heap.size 32 3 v' (acc.length + 1) (tokCells acc ++ tokCells1 (tokAt s p))) (hgrow : (W2.alloc tmp).grownBy w1 v.ownBlock) :
    SJ w s (.loop rc) (nextAt s p) (acc ++ [tokAt s p]) v' (w1.setCell ⟨w.heap.size + 3, 0, none⟩ v') := by
  have hn := ok_pos s p hok
  obtain ⟨hv1, hv2, hr2, hk2, hb2⟩ := h.b3.appended (by decide) h.row h.below.size (by omega) hown hgrow
  have nb : ∀ k, k ≠ w.heap.size + 3 → ∀ (o : Obj), w1.heap[k]? = some o → (w1.setCell ⟨w.heap.size + 3, 0, none⟩ v').heap[k]? = some o := fun k hk o h => heap_setCell_ne h hk
  refine ⟨h.below.trans hb2, nb _ (by omega) _ (keep_block h.row hgrow h.b0 (fun cs e => by cases e)), nb _ (by omega) _ (keep_block h.row hgrow h.b1 (fun cs e => by cases e)), nb _ (by omega) _ (keep_block h.row hgrow h.b2 (fun cs e => by cases e)), hv2,
    nb _ (by omega) _ (keep_block h.row hgrow h.b4 (fun cs e => by cases e)), nb _ (by omega) _ (keep_block h.row hgrow h.b5 (fun cs e => by cases e)), nb _ (by omega) _ (keep_block h.row hgrow h.b6 (fun cs e => by cases e)), ?_, ?_, ?_⟩
  · rw [List.length_append, tokCells_snoc]; exact hr2
  · have := h.len; rw [List.length_append]; simp; omega
  · intro f hf
    rw [scan_fuel s f (s.size + f) _ _ hf (by omega), ← h.go (s.size + f + 1) (by omega)]
    conv => rhs; unfold scanGo
    rw [if_pos hp, if_pos hok]
theorem SJ.failed {w : World} {s : ByteArray} {lp : Obj} {p : Nat} {acc : List Tok} {v : Value} {W2 : World} (h : SJ w s lp p acc v W2) (hp : p < s.size) (hok : okAt s p = false) :
    SE w s lp p (((W2.setCell ⟨w.heap.size, 0, none⟩ (.slice none 0 0)).setCell ⟨w.heap.size + 1, 0, none⟩ (.int .i64 2)).setCell ⟨w.heap.size + 1 + 1, 0, none⟩ (.int .i64 p)).drew := by
  have n0 : ∀ x : Value, ∀ k, k ≠ w.heap.size → ∀ (X : World) (o : Obj), X.heap[k]? = some o → (X.setCell ⟨w.heap.size, 0, none⟩ x).heap[k]? = some o := fun x k hk X o h => heap_setCell_ne h hk
  have n1 : ∀ x : Value, ∀ k, k ≠ w.heap.size + 1 → ∀ (X : World) (o : Obj), X.heap[k]? = some o → (X.setCell ⟨w.heap.size + 1, 0, none⟩ x).heap[k]? = some o := fun x k hk X o h => heap_setCell_ne h hk
  have n2 : ∀ x : Value, ∀ k, k ≠ w.heap.size + 1 + 1 → ∀ (X : World) (o : Obj), X.heap[k]? = some o → (X.setCell ⟨w.heap.size + 1 + 1, 0, none⟩ x).heap[k]? = some o := fun x k hk X o h => heap_setCell_ne h hk
  refine ⟨?_, ?_, ?_, ?_, ?_, ?_, ?_⟩
  · exact (((h.below.setCell (p := ⟨w.heap.size, 0, none⟩) (Nat.le_refl _) _).setCell (p := ⟨w.heap.size + 1, 0, none⟩) (by show _ ≤ w.heap.size + 1; omega) _).setCell (p := ⟨w.heap.size + 1 + 1, 0, none⟩) (by show _ ≤ w.heap.size + 1 + 1; omega) _).drew
  · exact n2 _ _ (by omega) _ _ (n1 _ _ (by omega) _ _ (one_setCell h.b0))
  · exact n2 _ _ (by omega) _ _ (one_setCell (n0 _ _ (by omega) _ _ h.b1))
  · exact one_setCell (n1 _ _ (by omega) _ _ (n0 _ _ (by omega) _ _ h.b2))
  · exact n2 _ _ (by omega) _ _ (n1 _ _ (by omega) _ _ (n0 _ _ (by omega) _ _ h.b5))
  · exact n2 _ _ (by omega) _ _ (n1 _ _ (by omega) _ _ (n0 _ _ (by omega) _ _ h.b6))
  · rw [← h.go (s.size - p + 1) (by omega)]
    simp only [scanGo]
    rw [if_pos hp, if_neg (by rw [hok]; decide)]

theorem scan_leaves {w W : World} {s : ByteArray} {v : Value} {L : List Tok} {e p : Int} (h0 : W.heap[w.heap.size]? = some (.cells #[v] 22 (0, 0))) (h1 : W.heap[w.heap.size + 1]? = some (.cells #[.int .i64 e] 25 (0, 0))) (h2 : W.heap[w.heap.size + 2]? = some (.cells #[.int .i64 p] 3 (0, 0)))
    (h5 : W.heap[w.heap.size + 5]? = some (.deferred (some []))) (hB : Below w.heap.size w W) (hrow : W.ownsRow w.heap.size 32 3 v L.length (tokCells L)) (hV : scanV s = (L, e, p)) {a : Act}
    (hd : a.defers = [{ target := .collected (w.heap.size + 5), args := #[] }]) (s2 : a.tmps.getD 2 undef = .pointer (some ⟨w.heap.size, 0, none⟩)) (s3 : a.tmps.getD 3 undef = .pointer (some ⟨w.heap.size + 1, 0, none⟩)) (s4 : a.tmps.getD 4 undef = .pointer (some ⟨w.heap.size + 2, 0, none⟩)) :
    bodyPostM Fence.wide 3 Tryd.prog Tryd.f10 (ScanPost w s) .ret a W := by
  have c0 : (W.putObj (w.heap.size + 5) (.deferred none)).cell? ⟨w.heap.size, 0, none⟩ = some v := cell_of_one (heap_putObj_ne h0 (by omega))
  have c1 : (W.putObj (w.heap.size + 5) (.deferred none)).cell? ⟨w.heap.size + 1, 0, none⟩ = some (.int .i64 e) := cell_of_one (heap_putObj_ne h1 (by omega))
  have c2 : (W.putObj (w.heap.size + 5) (.deferred none)).cell? ⟨w.heap.size + 2, 0, none⟩ = some (.int .i64 p) := cell_of_one (heap_putObj_ne h2 (by omega))
  show LeavesInM _ _ _ _ _ _ a.defers _ _
  rw [hd]
  refine ⟨by simp, .inl ⟨_, _, rfl, run_takeDeferred h5, ?_⟩⟩
  simp only [Array.getD_eq_getD_getElem?] at s2 s3 s4
  refine ⟨.tuple #[v, .int .i64 e, .int .i64 p], ?_, v, by rw [hV], by rw [hV]; exact ownsRow_putObj hrow _ h5 rfl, below_putObj hB (by omega) _⟩
  simp [results, Tryd.results10, go_sem, c0, c1, c2, s2, s3, s4]

set_option maxRecDepth 100000 in
set_option maxHeartbeats 2000000 in
theorem scan_short (s : ByteArray) (hs : s.size ≤ 65536) (w : World) : Calls Tryd.prog 10 #[.string s] w (ScanPost w s) := by
  have HS : Hid (s.size ≤ maxLen) := by show _ ≤ _; unfold maxLen; omega
  refine (callsIn_wide (n := 3)).1 ?_
  refine callsIn_of_wp_marks Tryd.func10 rfl trivial ?_ rfl
  simp only [Tryd.ntmps10, List.size_toArray, List.length_cons, List.length_nil, Nat.reduceAdd, Nat.reduceSub, Array.replicate_succ, Array.replicate_zero, List.push_toArray, List.append_toArray, List.nil_append, List.cons_append]
  gi_wp2_with (refine ⟨trivial, ?_⟩; gi_at_call 16; refine (callsIn_wide.2 (tokens_calls _ _)).mono ?_; rintro e w' ⟨rfl, rfl⟩)
  generalize hW0 : (((((w.alloc (.cells #[.slice none 0 0] 22)).alloc (.cells #[.int .i64 0] 25)).alloc (.cells #[.int .i64 0] 3)).alloc (.cells #[.slice none 0 0] 22)).alloc (.cells #[.string s] 9)) = W0
  have hz : W0.heap.size = w.heap.size + 5 := by rw [← hW0]; simp
  have HS0 : Hid (∀ lp : Obj, SJ w s lp (spaceN s) [] (.slice none 0 0) ((W0.alloc (.deferred (some []))).alloc lp)) := fun lp => by
    subst hW0
    exact sj_start w s lp hs
  refine range_law rfl (by omega) (gf := 20) (lb := #[.pointer (some ⟨w.heap.size + 4, 0, none⟩)]) rfl trivial (enters_of Tryd.func20 (by kernel_rfl) rfl) ?_
  intro fn _ rc hrc
  rw [hz] at hrc ⊢
  clear hW0
  have HRC := Lib.hid hrc; clear hrc
  refine (tokens_iter s HS.out _ (w.heap.size + 4) (fun p W => ∃ acc v, SJ w s (.loop (rc .ready none)) p acc v W) (fun p W => SE w s (.loop (rc .done (some .ret))) p W) ?box ?grow ?round _ ⟨_, _, HS0.out _⟩).mono ?after
  case box =>
    rintro p W ⟨acc, v, h⟩
    exact ⟨cell_of_one h.b4, lt_of_block h.b4⟩
  case grow =>
    rintro p W W' ⟨acc, v, h⟩ hb
    exact ⟨acc, v, h.grow hb⟩
  case round =>
    rintro p W hp ⟨acc, v, hg⟩
    refine round_law HRC.out trivial hg.b6 rfl ?_
    have HG := Lib.hid hg; clear hg
    have hle : p < s.size := hp
    have HT : Hid (tokAt s p = (kAt s p, textOf (kAt s p) (tAt s p), (p : Int))) := rfl
    have HGO : Hid (∀ f, s.size - p < f → scanGo s f p acc = scanV s) := HG.out.go
    cases hok : okAt s p
    · have HOK := Lib.hid hok; clear hok
      generalize textOf (kAt s p) (tAt s p) = tt
      generalize kAt s p = kk
      gi_wp2
      have hg1 := HG.out.grow ((Below.refl W.heap.size W).alloc (Nat.le_refl _) (.cells #[.int .i64 kk, .string tt, .int .i64 p] 32))
      refine ⟨hg1.b6, ?_⟩
      have hbt := heap_putObj_ne (o' := .loop (rc .busy none)) (World.alloc_heap_new W (.cells #[.int .i64 kk, .string tt, .int .i64 p] 32)) (r := w.heap.size + 6) (by have := lt_of_block HG.out.b6; omega)
      have hg2 := hg1.put rfl (.loop (rc .busy none))
      generalize (W.alloc (.cells #[.int .i64 kk, .string tt, .int .i64 p] 32)).putObj (w.heap.size + 6) (.loop (rc .busy none)) = W2 at hg2 hbt ⊢
      have c0 := cell_of_one hg2.b0
      have f0 := free_of_one hg2.b0
      have c1 := cell_of_one hg2.b1
      have f1 := free_of_one hg2.b1
      have c2 := cell_of_one hg2.b2
      have f2 := free_of_one hg2.b2
      have ct : W2.cell? ⟨W.heap.size, 2, none⟩ = some (.int .i64 p) := by simp [World.cell?, hbt]
      have HG2 := Lib.hid hg2; clear hg2
      have hmix : Tryd.prog.follows .mixedOrders = true := by kernel_rfl
      gi_wp2
      gi_region_with_o (fail)
      all_goals
        gi_wp2
        have hse := HG2.out.failed hle HOK.out
        exact ⟨hse.b6, .inr ⟨rfl, HOK.out, hse.put _⟩⟩
    · have HOK := Lib.hid hok; clear hok
      have HNX := ok_pos s p HOK.out
      generalize hnn : nextAt s p = nn at *
      have HNN := Lib.hid hnn; clear hnn
      generalize htt : textOf (kAt s p) (tAt s p) = tt at *
      generalize hkk : kAt s p = kk at *
      have HTT := Lib.hid htt; clear htt
      have HKK := Lib.hid hkk; clear hkk
      gi_wp2
      have hg1 := HG.out.grow ((Below.refl W.heap.size W).alloc (Nat.le_refl _) (.cells #[.int .i64 kk, .string tt, .int .i64 p] 32))
      refine ⟨hg1.b6, ?_⟩
      have hbt := heap_putObj_ne (o' := .loop (rc .busy none)) (World.alloc_heap_new W (.cells #[.int .i64 kk, .string tt, .int .i64 p] 32)) (r := w.heap.size + 6) (by have := lt_of_block HG.out.b6; omega)
      have hg2 := hg1.put rfl (.loop (rc .busy none))
      generalize (W.alloc (.cells #[.int .i64 kk, .string tt, .int .i64 p] 32)).putObj (w.heap.size + 6) (.loop (rc .busy none)) = W2 at hg2 hbt ⊢
      have c3 := hg2.b3.cell
      have ct0 : W2.cell? ⟨W.heap.size, 0, none⟩ = some (.int .i64 kk) := by simp [World.cell?, hbt]
      have ct1 : W2.cell? ⟨W.heap.size, 1, none⟩ = some (.string tt) := by simp [World.cell?, hbt]
      have ct2 : W2.cell? ⟨W.heap.size, 2, none⟩ = some (.int .i64 p) := by simp [World.cell?, hbt]
      have hrow := hg2.row
      have hn0 : w.heap.size ≤ W2.heap.size := hg2.below.size
      have hlen : acc.length ≤ 65536 := by have := hg2.len; omega
      have HG2 := Lib.hid hg2; clear hg2 hbt
      obtain ⟨i0, hi, hz0, hz1, hz2⟩ := info_parts info32
      gi_wp2_with (gi_at_builtin; refine wpListIn_append_own _ rfl _ _ 22 rfl w.heap.size 32 i0 (.agg #[.int .i64 0, .string ⟨#[]⟩, .int .i64 0]) 3 32 Tryd.underlying22 hi hz0 hz1 hz2 rfl (by decide) _ _ _ rfl (hrow.alloc _) ⟨W2.heap.size, 0, none⟩ 1 1 [.int .i64 kk, .string tt, .int .i64 p] rfl rfl ?c1 ?c2 ?c3 ?c4 ?c5 ?_)
      case c1 => exact cell_new3 _ _ _ _ _
      case c2 => intro u hu; simp at hu; rcases hu with rfl | rfl | rfl <;> rfl
      case c3 => unfold maxLen; omega
      case c4 => omega
      case c5 => simp; omega
      intro v' w1 hown' hgrow hnil
      obtain ⟨g', cap', rfl⟩ := ownsRow_succ hown'
      obtain ⟨hv1, hv2, hr2, hk2, hb2⟩ := HG2.out.b3.appended (by decide) hrow hn0 (by omega) hown' hgrow
      have d3 := hv1.cell
      have e3 := hv1.frozen
      have HAP : Hid (SJ w s (.loop (rc .busy none)) nn (acc ++ [tokAt s p]) (.slice (some ⟨g', 0, none⟩) (acc.length + 1) cap') (w1.setCell ⟨w.heap.size + 3, 0, none⟩ (.slice (some ⟨g', 0, none⟩) (acc.length + 1) cap'))) := by
        have hx : tokCells1 (tokAt s p) = [.int .i64 kk, .string tt, .int .i64 p] := by rw [HT.out]; rfl
        have := HG2.out.appended (v' := .slice (some ⟨g', 0, none⟩) (acc.length + 1) cap') hle HOK.out (by rw [hx]; exact hown') hgrow
        rw [HNN.out] at this
        exact this
      clear c3 ct0 ct1 ct2 hv1 hk2 hr2 hnil hown' hv2 hb2
      gi_wp2
      refine ⟨HAP.out.b6, .inl ⟨rfl, HOK.out, acc ++ [tokAt s p], .slice (some ⟨g', 0, none⟩) (acc.length + 1) cap', ?_⟩⟩
      rw [HNN.out]
      exact HAP.out.put rfl _
  case after =>
    rintro e W ⟨⟨v, rfl⟩, (⟨p, hpp, acc, v, hg⟩ | ⟨p, hp, hok, hx⟩)⟩
    · refine ⟨⟨_, rfl⟩, .inl ⟨hg.b6, ?_⟩⟩
      have hg2 := hg.put rfl (.loop (rc .exhausted none))
      generalize W.putObj (w.heap.size + 6) (.loop (rc .exhausted none)) = W2 at hg2 ⊢
      clear hg HRC
      have HV : Hid (scanV s = (acc ++ [endTok s], 0, 0)) := by
        show _ = _
        rw [← hg2.go 1 (by omega)]
        simp only [scanGo]
        rw [if_neg (by omega)]
      have c3 := hg2.b3.cell
      have hrow := hg2.row
      have hn0 : w.heap.size ≤ W2.heap.size := hg2.below.size
      have hlen : acc.length ≤ 65536 := by have := hg2.len; omega
      have hb1 := cell_of_one hg2.b1
      have HG2 := Lib.hid hg2; clear hg2
      obtain ⟨i0, hi, hz0, hz1, hz2⟩ := info_parts info32
      gi_wp2_with (gi_at_builtin; refine wpListIn_append_own _ rfl _ _ 22 rfl w.heap.size 32 i0 (.agg #[.int .i64 0, .string ⟨#[]⟩, .int .i64 0]) 3 32 Tryd.underlying22 hi hz0 hz1 hz2 rfl (by decide) _ _ _ rfl (hrow.alloc _) ⟨W2.heap.size, 0, none⟩ 1 1 [.int .i64 4, .string ⟨#[]⟩, .int .i64 s.size] rfl rfl ?c1 ?c2 ?c3 ?c4 ?c5 ?_)
      case c1 => exact cell_new3 _ _ _ _ _
      case c2 => intro u hu; simp at hu; rcases hu with rfl | rfl | rfl <;> rfl
      case c3 => unfold maxLen; omega
      case c4 => omega
      case c5 => simp; omega
      intro v' w1 hown' hgrow hnil
      obtain ⟨g', cap', rfl⟩ := ownsRow_succ hown'
      have k0 := cell_of_one (keep_block hrow hgrow HG2.out.b0 (fun cs e => by cases e))
      have k1 := cell_of_one (keep_block hrow hgrow HG2.out.b1 (fun cs e => by cases e))
      have k2 := cell_of_one (keep_block hrow hgrow HG2.out.b2 (fun cs e => by cases e))
      have l0 := free_of_one (keep_block hrow hgrow HG2.out.b0 (fun cs e => by cases e))
      have l1 := free_of_one (keep_block hrow hgrow HG2.out.b1 (fun cs e => by cases e))
      have l2 := free_of_one (keep_block hrow hgrow HG2.out.b2 (fun cs e => by cases e))
      have HOW := Lib.hid hown'; clear hown' hnil c3 hb1
      gi_wp2
      have n0 : ∀ x : Value, ∀ k, k ≠ w.heap.size → ∀ (X : World) (o : Obj), X.heap[k]? = some o → (X.setCell ⟨w.heap.size, 0, none⟩ x).heap[k]? = some o := fun x k hk X o h => heap_setCell_ne h hk
      have n1 : ∀ x : Value, ∀ k, k ≠ w.heap.size + 1 → ∀ (X : World) (o : Obj), X.heap[k]? = some o → (X.setCell ⟨w.heap.size + 1, 0, none⟩ x).heap[k]? = some o := fun x k hk X o h => heap_setCell_ne h hk
      have n2 : ∀ x : Value, ∀ k, k ≠ w.heap.size + 1 + 1 → ∀ (X : World) (o : Obj), X.heap[k]? = some o → (X.setCell ⟨w.heap.size + 1 + 1, 0, none⟩ x).heap[k]? = some o := fun x k hk X o h => heap_setCell_ne h hk
      have q0 := keep_block hrow hgrow HG2.out.b0 (fun cs e => by cases e)
      have q1 := keep_block hrow hgrow HG2.out.b1 (fun cs e => by cases e)
      have q2 := keep_block hrow hgrow HG2.out.b2 (fun cs e => by cases e)
      have q5 := keep_block hrow hgrow HG2.out.b5 (fun cs e => by cases e)
      refine scan_leaves (v := .slice (some ⟨g', 0, none⟩) (acc.length + 1) cap') (n2 _ _ (by omega) _ _ (n1 _ _ (by omega) _ _ (one_setCell q0))) (n2 _ _ (by omega) _ _ (one_setCell (n0 _ _ (by omega) _ _ q1))) (one_setCell (n1 _ _ (by omega) _ _ (n0 _ _ (by omega) _ _ q2))) (n2 _ _ (by omega) _ _ (n1 _ _ (by omega) _ _ (n0 _ _ (by omega) _ _ q5))) ?_ ?_ HV.out rfl rfl rfl rfl
      · refine (((HG2.out.below.trans (((Below.refl _ W2).alloc hn0 _).grown hgrow (by simp; omega) (fun j ej => ?_))).setCell (p := ⟨w.heap.size, 0, none⟩) (Nat.le_refl _) _).setCell (p := ⟨w.heap.size + 1, 0, none⟩) (by show _ ≤ w.heap.size + 1; omega) _).setCell (p := ⟨w.heap.size + 1 + 1, 0, none⟩) (by show _ ≤ w.heap.size + 1 + 1; omega) _
        exact (hrow.lt j ej).1
      · rw [List.length_append, tokCells_snoc]
        have hne : ∀ (k : Nat) (t : TypeId) (u : Value), t ≠ 32 → w1.heap[k]? = some (.cells #[u] t (0, 0)) → g' ≠ k := by
          rintro k t u ht hk rfl
          rcases HOW.out.2 with ⟨h, _⟩ | ⟨g, cap, cur, h, _, hg, _⟩
          · cases h
          · injection h with h1 h2 h3
            injection h1 with h1
            injection h1 with h1
            subst h1
            rw [hk] at hg; cases hg; exact ht rfl
        refine ((HOW.out.kept (grownBy_setCell' _ _ _) (.inr ?_)).kept (grownBy_setCell' _ _ _) (.inr ?_)).kept (grownBy_setCell' _ _ _) (.inr ?_)
        · have := hne _ 22 _ (by decide) q0; simp [Value.ownBlock]; exact this
        · have := hne _ 25 _ (by decide) q1; simp [Value.ownBlock]; exact this
        · have := hne _ 3 _ (by decide) q2; simp [Value.ownBlock]; exact this
    · refine ⟨⟨_, rfl⟩, .inr ⟨.ret, hx.b6, ?_⟩⟩
      have hx2 := hx.put (.loop (rc .exhausted (some .ret)))
      generalize W.putObj (w.heap.size + 6) (.loop (rc .exhausted (some .ret))) = W2 at hx2 ⊢
      clear hx HRC
      have HX := Lib.hid hx2; clear hx2
      gi_wp2
      exact scan_leaves (v := .slice none 0 0) HX.out.b0 HX.out.b1 HX.out.b2 HX.out.b5 HX.out.below (World.ownsRow_nil _ _ _ _) HX.out.val rfl rfl rfl rfl

theorem scan_calls (s : ByteArray) (hs : s.size ≤ maxLen) (w : World) : Calls Tryd.prog 10 #[.string s] w (ScanPost w s) := by
  by_cases h : s.size ≤ 65536
  · exact scan_short s h w
  · exact scan_long s hs (by omega) w
end Go.Proofs.YtjhinmdnabmdoaaDoor.Lex
