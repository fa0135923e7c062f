/- LexLimits, the plain law. -/
import Derived.Test.YtjhinmdnabmdoaaDoorPLexx10
import Derived.Test.YtjhinmdnabmdoaaDoorPureOut
set_option linter.unusedVariables false
namespace Go.Proofs.YtjhinmdnabmdoaaDoor.Pure
open Go.RowKit Go.Proofs.YtjhinmdnabmdoaaDoor.PLex Go.Proofs.YtjhinmdnabmdoaaDoorW.PrintWords Go.Proofs.YtjhinmdnabmdoaaDoorW.PrintLast
open Lex (Tok RTok Toks Fails scanV mkTok endTok skipL okL lenL kindL textL tokL mostOf preN wordB digitB textB letterB blankB)
open PureO (outT outT_len outT_get outT_end)

/-! ### the three texts -/
/-- A text between blanks: a token, or an error where it begins. -/
theorem lim_scan (L : List UInt8) (kd : Int) (hk : kindL (L ++ [32, 59]) = kd) (hl : lenL (L ++ [32, 59]) = L.length) (c : UInt8) (r : List UInt8) (hL : L = c :: r) (hb : blankB c = false) (h35 : c ≠ 35) (hs : L.length ≤ 60000)
    (s : ByteArray) (hsl : s.data.toList = 32 :: (L ++ [32, 59])) :
    ((L.length : Int) ≤ mostOf kd → ∃ t : List S32, lex_Scan.f s = some (t, 0, 0) ∧ t.length = 3 ∧ (rd_T32 t 0).f0 = kd ∧ (rd_T32 t 0).f2 = 1 ∧ (rd_T32 t 0).f1.size = (textL kd L).length) ∧
    (mostOf kd < (L.length : Int) → lex_Scan.f s = some ([], 2, 1)) := by
  have hsz : s.size = L.length + 3 := by
    have h1 : s.data.toList.length = s.size := rfl
    rw [← h1, hsl]; simp
  have hsk : skipL false s.data.toList = L ++ [32, 59] := by
    rw [hsl, hL, List.cons_append]
    show skipL false (c :: (r ++ [32, 59])) = _
    exact Lex.skip_head c _ hb h35
  have hll : (L ++ [32, 59]).length = L.length + 2 := by simp
  have hpos : L.length ≠ 0 := by rw [hL]; simp
  constructor
  · intro hle
    have hok : okL (L ++ [32, 59]) = true := by
      unfold okL; rw [hl, hk]; simp [hpos]; exact hle
    have ht : Toks (skipL false s.data.toList) [tokL (L ++ [32, 59]), tokL [59]] := by
      rw [hsk]
      refine .cons hok ?_
      rw [hl, List.drop_left]
      show Toks [59] [tokL [59]]
      refine .cons (by decide) ?_
      exact .nil
    have h1 := scan_toks s (by omega) _ ht
    refine ⟨_, h1, rfl, hk, ?_, ?_⟩
    · show ((s.size - (L ++ [32, 59]).length : Nat) : Int) = 1
      rw [hll, hsz]; omega
    · show (textL (kindL (L ++ [32, 59])) ((L ++ [32, 59]).take (lenL (L ++ [32, 59])))).length = _
      rw [hk, hl, List.take_left]
  · intro hgt
    have hok : okL (L ++ [32, 59]) = false := by
      unfold okL; rw [hl, hk]; simp; intro _; omega
    have hf : Fails (skipL false s.data.toList) (L.length + 2) := by
      rw [hsk, ← hll]; exact .here (by simp) hok
    rw [scan_fails s (by omega) _ hf, hsz, show L.length + 3 - (L.length + 2) = 1 by omega]
    rfl

theorem word_len (c : UInt8) (r : List UInt8) (hc : letterB c.toNat = true) (hx : ∀ d ∈ c :: r, wordB d.toNat = true) : kindL (c :: r ++ [32, 59]) = 0 ∧ lenL (c :: r ++ [32, 59]) = (c :: r).length := by
  constructor
  · rw [List.cons_append, Lex.kind_cons, if_pos hc]
  · have h1 := Lex.preN_app wordB (c :: r) [32, 59] hx (by intro d q h; injection h with h1 h2; subst h1; decide)
    rw [List.cons_append] at h1 ⊢
    rw [Lex.len_cons, if_pos hc]
    exact h1
theorem str_len (N : List UInt8) (hx : ∀ d ∈ N, textB d.toNat = true) : kindL ((34 :: (N ++ [34])) ++ [32, 59]) = 2 ∧ lenL ((34 :: (N ++ [34])) ++ [32, 59]) = (34 :: (N ++ [34])).length := by
  constructor
  · rfl
  · have h1 := Lex.preN_app textB N ([34] ++ [32, 59]) hx (by intro d q h; injection h with h1 h2; subst h1; decide)
    rw [List.cons_append, List.append_assoc, Lex.len_cons, if_neg (by decide), if_neg (by decide), if_pos (by decide)]
    show (match (N ++ ([34] ++ [32, 59])).drop (preN textB (N ++ ([34] ++ [32, 59]))) with
      | 34 :: _ => preN textB (N ++ ([34] ++ [32, 59])) + 2
      | _ => 0) = _
    rw [h1, List.drop_left]
    show N.length + 2 = _
    simp
theorem dig_kind (c : UInt8) (r : List UInt8) (hc : digitB c.toNat = true) : kindL (c :: r ++ [32, 59]) = 1 ∧ lenL (c :: r ++ [32, 59]) = Lex.numN (c :: r ++ [32, 59]) := by
  have hl : letterB c.toNat = false := by
    have : ∀ n : Nat, n < 256 → digitB (n : Int) = true → letterB (n : Int) = false := by decide +kernel
    exact this c.toNat c.toNat_lt hc
  rw [List.cons_append, Lex.kind_cons, Lex.len_cons, if_neg (by rw [hl]; decide), if_pos hc, if_neg (by rw [hl]; decide), if_pos hc]
  exact ⟨rfl, rfl⟩
theorem dig_len (c : UInt8) (r : List UInt8) (hx : ∀ d ∈ c :: r, digitB d.toNat = true) : kindL (c :: r ++ [32, 59]) = 1 ∧ lenL (c :: r ++ [32, 59]) = (c :: r).length := by
  obtain ⟨h1, h2⟩ := dig_kind c r (hx c List.mem_cons_self)
  refine ⟨h1, h2.trans ?_⟩
  exact Lex.num_plain (c :: r) [32, 59] hx (by intro d q h; injection h with h1 h2; subst h1; exact ⟨by decide, by decide⟩)
theorem frac_len (c : UInt8) (r B : List UInt8) (hx : ∀ d ∈ c :: r, digitB d.toNat = true) (hB : ∀ d ∈ B, digitB d.toNat = true) (hB0 : B ≠ []) :
    kindL (c :: (r ++ 46 :: B) ++ [32, 59]) = 1 ∧ lenL (c :: (r ++ 46 :: B) ++ [32, 59]) = (c :: (r ++ 46 :: B)).length := by
  obtain ⟨h1, h2⟩ := dig_kind c (r ++ 46 :: B) (hx c List.mem_cons_self)
  refine ⟨h1, h2.trans ?_⟩
  have e : c :: (r ++ 46 :: B) ++ [32, 59] = (c :: r) ++ 46 :: (B ++ [32, 59]) := by simp
  have h3 := Lex.preN_app digitB (c :: r) (46 :: (B ++ [32, 59])) hx (by intro d q h; injection h with h1 h2; subst h1; decide)
  have h4 := Lex.preN_app digitB B [32, 59] hB (by intro d q h; injection h with h1 h2; subst h1; decide)
  have hb : B.length ≠ 0 := fun h => hB0 (List.eq_nil_of_length_eq_zero h)
  rw [e]
  unfold Lex.numN
  rw [h3, List.drop_left]
  show (if preN digitB (B ++ [32, 59]) ≠ 0 then (c :: r).length + 1 + preN digitB (B ++ [32, 59]) else (c :: r).length) = _
  rw [h4, if_pos hb]
  simp
  omega

/-! ### the bytes -/
def nmI (j : Nat) : Int := bt (⟨#[97, 90, 95, 48, 57]⟩ : ByteArray) (Int.tmod (j : Int) 5)
def dgI (j : Nat) : Int := (wrap64 (48 + (Int.tmod (j : Int) 10))) % 256
def fillL (f : Nat → Int) (n i : Nat) : List Int := (List.range i).map f ++ List.replicate (n - i) 0
theorem fill_len (f : Nat → Int) (n i : Nat) (h : i ≤ n) : (fillL f n i).length = n := by simp [fillL]; omega
theorem fill_set (f : Nat → Int) (n i : Nat) (h : i < n) : (fillL f n i).set i (f i) = fillL f n (i + 1) := by
  unfold fillL
  rw [List.set_append_right _ _ (by simp), show n - i = (n - (i + 1)) + 1 by omega, List.replicate_succ]
  simp [List.range_succ]
theorem fill_all (f : Nat → Int) (n : Nat) : fillL f n n = (List.range n).map f := by simp [fillL]
theorem tmod_nat (j m : Nat) : Int.tmod (j : Int) (m : Int) = ((j % m : Nat) : Int) := rfl
theorem nm_word (j : Nat) : wordB (UInt8.ofNat (nmI j).toNat).toNat = true ∧ textB (UInt8.ofNat (nmI j).toNat).toNat = true := by
  have h1 : Int.tmod (j : Int) 5 = ((j % 5 : Nat) : Int) := tmod_nat j 5
  have h2 : j % 5 < 5 := Nat.mod_lt _ (by decide)
  unfold nmI
  rw [h1]
  generalize j % 5 = m at h2
  revert m
  decide +kernel
theorem dg_digit (j : Nat) : digitB (UInt8.ofNat (dgI j).toNat).toNat = true := by
  have h1 : Int.tmod (j : Int) 10 = ((j % 10 : Nat) : Int) := tmod_nat j 10
  have h2 : j % 10 < 10 := Nat.mod_lt _ (by decide)
  unfold dgI
  rw [h1]
  generalize j % 10 = m at h2
  revert m
  decide +kernel
theorem str_list (xs : List Int) : (strOfNums xs).data.toList = xs.map fun n => UInt8.ofNat n.toNat := rfl
theorem str_size (xs : List Int) : (strOfNums xs).size = xs.length := by
  show (xs.map fun n => UInt8.ofNat n.toNat).length = _
  simp

/-! ### the walks -/
theorem lim_l2 (N : Nat) (hN : N = 65536) : ∀ (d i : Nat), i + d = N → ∀ k, d < k → bournelaw13_LexLimits.l2 k true (fillL (fun _ => 32) N i) (i : Int) = some true
  | 0, i, h, 0, hk => by omega
  | 0, i, h, k + 1, hk => by
    have : i = N := by omega
    subst this
    have hlen := fill_len (fun _ => 32) i i (Nat.le_refl _)
    have hsz : (strOfNums (fillL (fun _ => 32) i i)).size = i := by rw [str_size, hlen]
    have hbl : ∀ c ∈ (strOfNums (fillL (fun _ => 32) i i)).data.toList, blankB c = true := by
      intro c hc
      rw [str_list, fill_all, List.mem_map] at hc
      obtain ⟨a, ha, rfl⟩ := hc
      rw [List.mem_map] at ha
      obtain ⟨b, _, rfl⟩ := ha
      rfl
    generalize hS : strOfNums (fillL (fun _ => 32) i i) = S at hsz hbl
    have hsk : skipL false S.data.toList = [] := by
      have h1 := (Lex.gap_blank _ hbl).skip []
      rw [List.append_nil] at h1
      rw [h1]; rfl
    have hsc := scan_toks S (by omega) [] (by rw [hsk]; exact .nil)
    have hsz2 : (S ++ (⟨#[32]⟩ : ByteArray)).size = i + 1 := by rw [ByteArray.size_append, hsz]; rfl
    have hsc2 : lex_Scan.f (S ++ (⟨#[32]⟩ : ByteArray)) = some ([], 8, 0) := by
      rw [scan_f _ (by omega)]
      unfold Lex.scanV
      rw [if_pos (by omega)]; rfl
    rw [bournelaw13_LexLimits.l2, hlen, if_neg (by omega), hS, hsc, Option.bind_some, if_pos (by omega), hsc2, Option.bind_some]
    rfl
  | d + 1, i, h, 0, hk => by omega
  | d + 1, i, h, k + 1, hk => by
    have hlen := fill_len (fun _ => 32) N i (by omega)
    have ih := lim_l2 N hN d (i + 1) (by omega) k (by omega)
    have hw := fun _ : Unit => (show wrap64 ((i : Int) + 1) = ((i + 1 : Nat) : Int) by unfold wrap64; omega)
    have hset := fill_set (fun _ => 32) N i (by omega)
    rw [bournelaw13_LexLimits.l2, hlen, if_pos (by omega), if_pos (by omega), hw (), Int.toNat_natCast, hset]
    exact ih

/-- What is known of one of the three texts. -/
structure Lim (n : Nat) (T : ByteArray) (kd most : Int) : Prop where
  good : (n : Int) ≤ most → ∀ s : ByteArray, s.data.toList = 32 :: (T.data.toList ++ [32, 59]) → ∃ t : List S32, lex_Scan.f s = some (t, 0, 0) ∧ t.length = 3 ∧ (rd_T32 t 0).f0 = kd ∧ (rd_T32 t 0).f2 = 1 ∧ (rd_T32 t 0).f1.size = n
  bad : most < (n : Int) → ∀ s : ByteArray, s.data.toList = 32 :: (T.data.toList ++ [32, 59]) → lex_Scan.f s = some ([], 2, 1)
  size : T.size ≤ 1000

theorem lim_l1 (n : Nat) (hn : n ≤ 600) (T0 T1 T2 : ByteArray) (h0 : Lim n T0 0 24) (h1 : Lim n T1 1 24) (h2 : Lim n T2 2 500) : ∀ (d i : Nat), i + d = 3 → ∀ k, 66000 + 2 * d ≤ k →
    bournelaw13_LexLimits.l1 k (n : Int) true [T0, T1, T2] [0, 1, 2] [24, 24, 500] (i : Int) = some true
  | 0, i, h, k, hk => by
    obtain ⟨k, rfl⟩ : ∃ j, k = j + 1 := ⟨k - 1, by omega⟩
    have : i = 3 := by omega
    subst this
    have hl2 : ∀ N, N = 65536 → bournelaw13_LexLimits.l2 k true (List.replicate N 0) 0 = some true := by
      intro N hN
      have := lim_l2 N hN N 0 (by omega) k (by omega)
      unfold fillL at this
      simpa using this
    rw [bournelaw13_LexLimits.l1, if_neg (by decide), if_pos (by omega)]
    exact hl2 65536 rfl
  | d + 1, i, h, k, hk => by
    obtain ⟨k, rfl⟩ : ∃ j, k = j + 1 + 1 := ⟨k - 2, by omega⟩
    have ih := lim_l1 n hn T0 T1 T2 h0 h1 h2 d (i + 1) (by omega)
    have hi : i < 3 := by omega
    have hw := fun _ : Unit => (show wrap64 ((i : Int) + 1) = ((i + 1 : Nat) : Int) by unfold wrap64; omega)
    obtain ⟨T, kd, most, hT, hK, hM, hlim⟩ : ∃ T kd most, rdOf ByteArray.empty [T0, T1, T2] (i : Int) = T ∧ rd [0, 1, 2] (i : Int) = kd ∧ rd [24, 24, 500] (i : Int) = most ∧ Lim n T kd most := by
      match i, hi with
      | 0, _ => exact ⟨T0, 0, 24, rfl, rfl, rfl, h0⟩
      | 1, _ => exact ⟨T1, 1, 24, rfl, rfl, rfl, h1⟩
      | 2, _ => exact ⟨T2, 2, 500, rfl, rfl, rfl, h2⟩
    have hsz := hlim.size
    have hs1 : (⟨#[32]⟩ : ByteArray).size = 1 := rfl
    have hs2 : ((⟨#[32]⟩ : ByteArray) ++ T).size = 1 + T.size := ByteArray.size_append
    have hsl : (((⟨#[32]⟩ : ByteArray) ++ T) ++ (⟨#[32, 59]⟩ : ByteArray)).data.toList = 32 :: (T.data.toList ++ [32, 59]) := by simp
    generalize hS : ((⟨#[32]⟩ : ByteArray) ++ T) ++ (⟨#[32, 59]⟩ : ByteArray) = S at hsl
    have hl3 : ([T0, T1, T2].length : Int) = 3 := rfl
    have hl4 : (([24, 24, 500] : List Int).length : Int) = 3 := rfl
    have hl5 : (([0, 1, 2] : List Int).length : Int) = 3 := rfl
    rw [bournelaw13_LexLimits.l1, hT, hK, hM, hS, hl3, hl4, hl5, if_pos (by omega), if_pos (by omega), if_pos (by omega), if_pos (by omega), if_pos (by omega)]
    by_cases hm : most < (n : Int)
    · rw [hlim.bad hm S hsl, Option.bind_some]
      dsimp only
      rw [if_pos (by omega), if_pos hm, if_pos rfl, bournelaw13_LexLimits.j5, if_neg (by decide), hw ()]
      exact ih k (by omega)
    · obtain ⟨t, e1, e2, e3, e4, e5⟩ := hlim.good (by omega) S hsl
      rw [e1, Option.bind_some]
      dsimp only
      rw [if_pos (by omega), if_neg hm, if_pos rfl, e2, if_pos (by rfl), if_pos (by decide), if_pos (by omega), e3, if_pos rfl, e4, if_pos rfl, e5, if_pos rfl, hw ()]
      exact ih (k + 1) (by omega)

theorem lim_l0 (n : Nat) (hn : n ≤ 600) (x1 : Int) (k : Nat) : ∀ (d i : Nat), i + d = n →
    ∃ c, (c = true → 0 < x1 ∧ x1 < (n : Int) - 1) ∧ bournelaw13_LexLimits.l0 (k + d + 1) (n : Int) x1 true (fillL nmI n i) (fillL dgI n i) (i : Int) = bournelaw13_LexLimits.j2 k (n : Int) x1 true ((List.range n).map nmI) ((List.range n).map dgI) c
  | 0, i, h => by
    have : i = n := by omega
    subst this
    have hw := fun _ : Unit => (show wrap64 ((i : Int) - 1) = (i : Int) - 1 by unfold wrap64; omega)
    rw [bournelaw13_LexLimits.l0, if_neg (by omega), fill_all, fill_all, hw ()]
    by_cases h1 : x1 > 0
    · rw [if_pos h1]
      exact ⟨_, fun h2 => ⟨h1, of_decide_eq_true h2⟩, rfl⟩
    · rw [if_neg h1]
      exact ⟨false, fun h2 => (by cases h2), rfl⟩
  | d + 1, i, h => by
    obtain ⟨c, hc, ih⟩ := lim_l0 n hn x1 k d (i + 1) (by omega)
    refine ⟨c, hc, ?_⟩
    have hw := fun _ : Unit => (show wrap64 ((i : Int) + 1) = ((i + 1 : Nat) : Int) by unfold wrap64; omega)
    have h1 : Int.tmod (i : Int) 5 = ((i % 5 : Nat) : Int) := tmod_nat i 5
    have e1 : (fillL nmI n i).set i (bt (⟨#[97, 90, 95, 48, 57]⟩ : ByteArray) (Int.tmod (i : Int) 5)) = fillL nmI n (i + 1) := fill_set nmI n i (by omega)
    have e2 : (fillL dgI n i).set i ((wrap64 (48 + (Int.tmod (i : Int) 10))) % 256) = fillL dgI n (i + 1) := fill_set dgI n i (by omega)
    have l1 := fill_len nmI n i (by omega)
    have l2 := fill_len dgI n i (by omega)
    rw [show k + (d + 1) + 1 = (k + d + 1) + 1 by omega, bournelaw13_LexLimits.l0, if_pos (by omega), if_pos (by rw [h1]; omega), if_pos (by rw [h1]; omega), if_pos (by omega), l1, l2, if_pos (by omega), if_pos (by omega), Int.toNat_natCast, hw ()]
    rw [e1, e2]
    exact ih

theorem mk_lim (n : Nat) (T : ByteArray) (kd most : Int) (L : List UInt8) (hT : T.data.toList = L) (hk : kindL (L ++ [32, 59]) = kd) (hl : lenL (L ++ [32, 59]) = L.length) (hc : ∃ c r, L = c :: r ∧ blankB c = false ∧ c ≠ 35) (hs : L.length ≤ 1000)
    (hm : (L.length : Int) ≤ mostOf kd ↔ (n : Int) ≤ most) (ht : (textL kd L).length = n) : Lim n T kd most := by
  obtain ⟨c, r, hL, hb, h35⟩ := hc
  subst hT
  refine ⟨fun h s hsl => ?_, fun h s hsl => ?_, hs⟩
  · have h1 := (lim_scan T.data.toList kd hk hl c r hL hb h35 (by omega) s hsl).1 (hm.2 h)
    rw [ht] at h1
    exact h1
  · exact (lim_scan T.data.toList kd hk hl c r hL hb h35 (by omega) s hsl).2 (by
      have h2 : ¬ ((T.data.toList.length : Int) ≤ mostOf kd) := fun h3 => absurd (hm.1 h3) (by omega)
      omega)

/-- The bytes of numbers. -/
def bytL (f : Nat → Int) (n : Nat) : List UInt8 := ((List.range n).map f).map fun x => UInt8.ofNat x.toNat
theorem byt_len (f : Nat → Int) (n : Nat) : (bytL f n).length = n := by simp [bytL]
theorem byt_mem (f : Nat → Int) (n : Nat) (p : Int → Bool) (h : ∀ j, p (UInt8.ofNat (f j).toNat).toNat = true) : ∀ c ∈ bytL f n, p c.toNat = true := by
  intro c hc
  unfold bytL at hc
  rw [List.mem_map] at hc
  obtain ⟨a, ha, rfl⟩ := hc
  rw [List.mem_map] at ha
  obtain ⟨b, _, rfl⟩ := ha
  exact h b
theorem byt_cons (f : Nat → Int) (n : Nat) (h : 1 ≤ n) : ∃ r, bytL f n = UInt8.ofNat (f 0).toNat :: r := by
  obtain ⟨m, rfl⟩ : ∃ m, n = m + 1 := ⟨n - 1, by omega⟩
  exact ⟨_, by unfold bytL; rw [List.range_succ_eq_map]; rfl⟩

theorem lim_name (n : Nat) (h1 : 1 ≤ n) (h2 : n ≤ 600) : Lim n (strOfNums ((List.range n).map nmI)) 0 24 := by
  obtain ⟨r, hr⟩ := byt_cons nmI n h1
  have hw := byt_mem nmI n wordB (fun j => (nm_word j).1)
  have hlen := byt_len nmI n
  have h0 : UInt8.ofNat (nmI 0).toNat = 97 := by decide +kernel
  rw [hr, h0] at hw
  obtain ⟨k1, k2⟩ := word_len 97 r (by decide) hw
  rw [← h0, ← hr] at k1 k2
  refine mk_lim n _ 0 24 (bytL nmI n) rfl k1 k2 ⟨_, r, hr, by rw [h0]; decide, by rw [h0]; decide⟩ (by omega) (by rw [hlen]; exact Iff.rfl) ?_
  unfold textL; rw [if_neg (by decide), hlen]
theorem lim_str (n : Nat) (h1 : 1 ≤ n) (h2 : n ≤ 600) : Lim n (((⟨#[34]⟩ : ByteArray) ++ strOfNums ((List.range n).map nmI)) ++ (⟨#[34]⟩ : ByteArray)) 2 500 := by
  have hw := byt_mem nmI n textB (fun j => (nm_word j).2)
  have hlen := byt_len nmI n
  obtain ⟨k1, k2⟩ := str_len (bytL nmI n) hw
  have hm : mostOf 2 = 502 := rfl
  refine mk_lim n _ 2 500 (34 :: (bytL nmI n ++ [34])) ?_ k1 k2 ⟨34, _, rfl, by decide, by decide⟩ (by simp; omega) (by rw [hm]; simp; omega) ?_
  · simp only [ByteArray.data_append, Array.toList_append]
    rfl
  · unfold textL; rw [if_pos rfl]; simp; omega
theorem lim_num (n : Nat) (h1 : 1 ≤ n) (h2 : n ≤ 600) : Lim n (strOfNums ((List.range n).map dgI)) 1 24 := by
  obtain ⟨r, hr⟩ := byt_cons dgI n h1
  have hw := byt_mem dgI n digitB dg_digit
  have hlen := byt_len dgI n
  have h0 : UInt8.ofNat (dgI 0).toNat = 48 := by decide +kernel
  rw [hr] at hw
  obtain ⟨k1, k2⟩ := dig_len _ r hw
  rw [← hr] at k1 k2
  refine mk_lim n _ 1 24 (bytL dgI n) rfl k1 k2 ⟨_, r, hr, by rw [h0]; decide, by rw [h0]; decide⟩ (by omega) (by rw [hlen]; exact Iff.rfl) ?_
  unfold textL; rw [if_neg (by decide), hlen]
theorem lim_frac (n p : Nat) (h1 : 0 < p) (h2 : n ≤ 600) (h3 : p + 1 < n) : Lim n (strOfNums (((List.range n).map dgI).set p 46)) 1 24 := by
  have hw := byt_mem dgI n digitB dg_digit
  have hlen := byt_len dgI n
  have h0 : UInt8.ofNat (dgI 0).toNat = 48 := by decide +kernel
  have e : (strOfNums (((List.range n).map dgI).set p 46)).data.toList = (bytL dgI n).take p ++ 46 :: (bytL dgI n).drop (p + 1) := by
    rw [str_list, List.map_set, List.set_eq_take_append_cons_drop, if_pos (by simp; omega)]
    rfl
  obtain ⟨r, hr⟩ : ∃ r, (bytL dgI n).take p = 48 :: r := by
    obtain ⟨r, hr⟩ := byt_cons dgI n (by omega)
    obtain ⟨q, rfl⟩ : ∃ q, p = q + 1 := ⟨p - 1, by omega⟩
    rw [hr, h0]
    exact ⟨r.take q, rfl⟩
  have hx : ∀ d ∈ 48 :: r, digitB d.toNat = true := by
    intro d hd
    rw [← hr] at hd
    exact hw d (List.mem_of_mem_take hd)
  have hB : ∀ d ∈ (bytL dgI n).drop (p + 1), digitB d.toNat = true := fun d hd => hw d (List.mem_of_mem_drop hd)
  have hB0 : (bytL dgI n).drop (p + 1) ≠ [] := by
    intro h
    have := congrArg List.length h
    rw [List.length_drop, hlen] at this
    simp only [List.length_nil] at this
    omega
  obtain ⟨k1, k2⟩ := frac_len 48 r _ hx hB hB0
  rw [hr, List.cons_append] at e
  have hL : (48 :: (r ++ 46 :: (bytL dgI n).drop (p + 1))).length = n := by
    have h4 : (48 :: r).length = p := by rw [← hr, List.length_take, hlen]; omega
    simp only [List.length_cons, List.length_append, List.length_drop, hlen] at h4 ⊢
    omega
  refine mk_lim n _ 1 24 _ e k1 k2 ⟨48, _, rfl, by decide, by decide⟩ (by omega) (by rw [hL]; exact Iff.rfl) ?_
  unfold textL; rw [if_neg (by decide), hL]

theorem LexLimits : bournelaw13_LexLimits.Pure := by
  intro a0 a1 w0 w1
  refine ⟨70000 + 1, ?_⟩
  unfold bournelaw13_LexLimits.f
  rw [small_ok _ (by omega), Option.bind_some]
  have hj : ∀ b, (b = false → 1 ≤ a0 ∧ a0 ≤ 600) → bournelaw13_LexLimits.j0 (70000 + 1) a0 a1 true b = some true := by
    intro b hb
    cases b with
    | true => rw [bournelaw13_LexLimits.j0, if_pos rfl]
    | false =>
      obtain ⟨h1, h2⟩ := hb rfl
      obtain ⟨n, rfl⟩ := Int.eq_ofNat_of_zero_le (by omega : 0 ≤ a0)
      rw [bournelaw13_LexLimits.j0, if_neg (by decide), if_pos (by omega), Int.toNat_natCast, if_pos (by omega)]
      obtain ⟨k, hk⟩ : ∃ k, 70000 = (k + 1 + 1) + n + 1 := ⟨70000 - n - 3, by omega⟩
      rw [hk]
      obtain ⟨c, hc, hl0⟩ := lim_l0 n (by omega) a1 (k + 1 + 1) n 0 (by omega)
      have hf0 : ∀ f, fillL f n 0 = List.replicate n 0 := fun f => by simp [fillL]
      rw [hf0, hf0] at hl0
      refine hl0.trans ?_
      have hfin : ∀ X, Lim n (strOfNums X) 1 24 → bournelaw13_LexLimits.j3 (k + 1) (n : Int) true ((List.range n).map nmI) X = some true := by
        intro X hX
        have hsz : (strOfNums ((List.range n).map nmI)).size = n := by rw [str_size]; simp
        have hs1 : ((⟨#[34]⟩ : ByteArray) ++ strOfNums ((List.range n).map nmI)).size = 1 + n := by rw [ByteArray.size_append, hsz]; rfl
        rw [bournelaw13_LexLimits.j3, if_pos (by omega), if_pos (by omega)]
        exact lim_l1 n (by omega) _ _ _ (lim_name n (by omega) (by omega)) hX (lim_str n (by omega) (by omega)) 3 0 (by omega) k (by omega)
      cases c with
      | true =>
        obtain ⟨c1, c2⟩ := hc rfl
        obtain ⟨p, rfl⟩ := Int.eq_ofNat_of_zero_le (by omega : 0 ≤ a1)
        rw [bournelaw13_LexLimits.j2, if_pos rfl, if_pos (by omega), if_pos (by simp; omega), Int.toNat_natCast]
        exact hfin _ (lim_frac n p (by omega) (by omega) (by omega))
      | false =>
        rw [bournelaw13_LexLimits.j2, if_neg (by decide)]
        exact hfin _ (lim_num n (by omega) (by omega))
  split
  · exact hj true (fun h => by cases h)
  · refine hj _ fun h => ?_
    simp only [decide_eq_false_iff_not] at h
    omega
end Go.Proofs.YtjhinmdnabmdoaaDoor.Pure
