/- LexSpaces, the plain law. -/
import Derived.Test.YtjhinmdnabmdoaaDoorPLexx8
import Derived.Test.YtjhinmdnabmdoaaDoorPureOut
set_option linter.unusedVariables false
namespace Go.Proofs.YtjhinmdnabmdoaaDoor.Pure
open Go.RowKit Go.Proofs.YtjhinmdnabmdoaaDoor.PLex Go.Proofs.YtjhinmdnabmdoaaDoorW.PrintWords Go.Proofs.YtjhinmdnabmdoaaDoorW.PrintLast
open Lex (Tok RTok Toks Fails scanV mkTok endTok skipL okL lenL kindL textL tokL openL Gap stL shiftR)
open PureO (outT outT_len outT_get outT_end bt_drop drop_end text_le)

theorem wrapN (i : Nat) (h : i < 100000) : wrap64 ((i : Int) + 1) = ((i + 1 : Nat) : Int) := by unfold wrap64; omega

theorem com_l0 (s : ByteArray) (hs : s.size ≤ 4000) : ∀ (d i k : Nat) (o : Bool), s.size ≤ i + d → d < k → bournelaw13_comments.l0 k s o (i : Int) = some (openL o (s.data.toList.drop i))
  | d, i, 0, o, _, h => by omega
  | d, i, k + 1, o, hi, hk => by
    unfold bournelaw13_comments.l0
    rcases hd : s.data.toList.drop i with _ | ⟨c, r⟩
    · have hl : s.size ≤ i := by
        have := congrArg List.length hd
        rw [List.length_drop] at this
        have h2 : s.data.toList.length = s.size := rfl
        simp only [List.length_nil] at this
        omega
      rw [if_neg (by omega)]
      rfl
    · obtain ⟨hb, hlt, hr⟩ := bt_drop s i c r hd
      have hw := wrapN i (by omega)
      have h1 : ∀ o', bournelaw13_comments.l0 k s o' ((i + 1 : Nat) : Int) = some (openL o' r) := by
        intro o'
        have := com_l0 s hs (d - 1) (i + 1) k o' (by omega) (by omega)
        rwa [hr] at this
      rw [if_pos (by omega), if_pos (by omega), hb, hw]
      have hc10 : ((c.toNat : Int) = 10) ↔ c = 10 := by
        constructor
        · intro h; apply UInt8.toNat_inj.1; show c.toNat = 10; omega
        · rintro rfl; rfl
      have hc35 : (((c.toNat : Int)) == 35) = (c == 35) := by
        by_cases h : c = 35
        · subst h; rfl
        · have h2 : ¬ ((c.toNat : Int) = 35) := fun h3 => h (UInt8.toNat_inj.1 (by show c.toNat = 35; omega))
          rw [beq_eq_false_iff_ne.mpr h, beq_eq_false_iff_ne.mpr h2]
      unfold openL
      by_cases h10 : c = 10
      · subst h10
        rw [if_pos (by rfl), h1]
        rfl
      · rw [if_neg (by rw [hc10]; exact h10), h1, h1, hc35]
        have : (c != 10) = true := by simpa [bne] using h10
        rw [this]
        cases o <;> simp
theorem com_f (n : Nat) (s : ByteArray) (hs : s.size ≤ 4000) (hn : n = s.size) (ts : List RTok) (hl : ts.length ≤ 4000) (hx : ∀ t ∈ ts, t.2.2 ≤ n ∧ t.2.1.length ≤ t.2.2) (k : Nat) (hk : 4002 ≤ k) :
    ∃ from_ : Nat, bournelaw13_comments.f k s (outT n s ts) = some (openL false (s.data.toList.drop from_)) ∧ (ts = [] → from_ = 0) ∧ ∀ j t, ts.length = j + 1 → ts[j]? = some t → from_ ≤ (n - t.2.2) + t.2.1.length := by
  obtain ⟨k, rfl⟩ : ∃ j, k = j + 1 := ⟨k - 1, by omega⟩
  have hlen : ∀ _u : Unit, (((outT n s ts).length : Nat) : Int) = (ts.length : Int) + 1 := fun _ => by rw [outT_len]; omega
  unfold bournelaw13_comments.f
  rcases hts : ts.length with _ | j
  · obtain rfl := List.eq_nil_of_length_eq_zero hts
    refine ⟨0, ?_, fun _ => rfl, fun j t h => by cases h⟩
    rw [if_neg (by rw [hlen ()]; simp), bournelaw13_comments.j0]
    exact com_l0 s hs s.size 0 k false (by omega) (by omega)
  · have hj : j < ts.length := by omega
    have hg : ts[j]? = some ts[j] := List.getElem?_eq_getElem hj
    have hw : ∀ _u : Unit, wrap64 ((ts.length : Int) + 1 - 2) = (j : Int) := fun _ => by unfold wrap64; omega
    have hm := hx ts[j] (List.getElem_mem hj)
    have ht := text_le ts[j].1 ts[j].2.1
    have hat := outT_get n s ts j ts[j] hg
    have f1 : (toTok (mkTok n ts[j])).f1.size = (textL ts[j].1 ts[j].2.1).length := rfl
    have f2 : (toTok (mkTok n ts[j])).f2 = ((n - ts[j].2.2 : Nat) : Int) := rfl
    have hw2 : ∀ _u : Unit, wrap64 (((n - ts[j].2.2 : Nat) : Int) + (((textL ts[j].1 ts[j].2.1).length : Nat) : Int)) = ((n - ts[j].2.2 + (textL ts[j].1 ts[j].2.1).length : Nat) : Int) := fun _ => by clear f1 f2 hw hlen; unfold wrap64; omega
    refine ⟨n - ts[j].2.2 + (textL ts[j].1 ts[j].2.1).length, ?_, fun h => by rw [h] at hj; simp at hj, ?_⟩
    · rw [hlen (), hw (), hat, f1, f2, hw2 ()]
      clear f1 f2
      rw [if_pos (by omega), if_pos (by omega), if_pos (by omega), bournelaw13_comments.j0]
      exact com_l0 s hs s.size _ k false (by omega) (by omega)
    · intro j' t h1 h2
      have : j' = j := by omega
      subst this
      rw [hg] at h2
      obtain rfl := Option.some.inj h2
      clear f1 f2
      omega

theorem sp_l0 (s : ByteArray) (hs : s.size ≤ 4000) (i : Int) (c : ByteArray) (ts : List RTok) (hl : ts.length ≤ 4000) (hx : ∀ t ∈ ts, t.2.2 ≤ s.size) (k : Nat) : ∀ (d m : Nat), m + d = ts.length + 1 →
    bournelaw13_LexSpaces.l0 (k + d + 1) s i c true (outT s.size s ts) (m : Int) = bournelaw13_LexSpaces.l1 k s i c true (outT s.size s ts) 0
  | 0, m, h => by
    rw [bournelaw13_LexSpaces.l0, outT_len, if_neg (by omega)]
  | d + 1, m, h => by
    have ih := sp_l0 s hs i c ts hl hx k d (m + 1) (by omega)
    have hw := wrapN m (by omega)
    have hpos : ∃ p : Nat, (rd_T32 (outT s.size s ts) (m : Int)).f2 = (p : Int) ∧ p ≤ s.size := by
      by_cases hm : m < ts.length
      · rw [outT_get s.size s ts m ts[m] (List.getElem?_eq_getElem hm)]
        exact ⟨s.size - ts[m].2.2, rfl, by omega⟩
      · have : m = ts.length := by omega
        subst this
        rw [outT_end]
        exact ⟨s.size, rfl, Nat.le_refl _⟩
    obtain ⟨p, hp, hp2⟩ := hpos
    rw [show k + (d + 1) + 1 = (k + d + 1) + 1 by omega, bournelaw13_LexSpaces.l0, outT_len, hp, hw, if_pos (by omega), if_pos (by omega), if_neg (by omega), if_neg (by omega)]
    exact ih

theorem sp_l3 (s : ByteArray) (hs : s.size ≤ 4000) (i : Nat) (ts us : List RTok) (g : ByteArray) (hg : g.size ≤ 1000) (s' : ByteArray) (hs' : s'.size = s.size + g.size) (gs : List ByteArray) (at_ : Int) (x15 : Nat) (hx : x15 < gs.length) (hgs : rdOf ByteArray.empty gs (x15 : Int) = g)
    (hl : ts.length ≤ 4000) (hi : i ≤ ts.length) (hu : us = (ts.take i).map (shiftR g.size) ++ ts.drop i) (hle : ∀ t ∈ ts, t.2.2 ≤ s.size) (k : Nat) : ∀ (d m : Nat), m + d = ts.length + 1 →
    bournelaw13_LexSpaces.l3 (k + d + 1) s (i : Int) true (outT s.size s ts) gs at_ (x15 : Int) (outT s'.size s' us) (m : Int) = bournelaw13_LexSpaces.l2 k s (i : Int) true (outT s.size s ts) gs at_ (wrap64 ((x15 : Int) + 1))
  | 0, m, h => by
    rw [bournelaw13_LexSpaces.l3, outT_len, if_neg (by omega)]
  | d + 1, m, h => by
    have ih := sp_l3 s hs i ts us g hg s' hs' gs at_ x15 hx hgs hl hi hu hle k d (m + 1) (by omega)
    have hw := wrapN m (by omega)
    have hul : us.length = ts.length := by rw [hu]; simp; omega
    have hpos : ∃ p : Nat, (rd_T32 (outT s.size s ts) (m : Int)).f2 = (p : Int) ∧ p ≤ s.size ∧ (rd_T32 (outT s'.size s' us) (m : Int)).f2 = ((p + if m < i then 0 else g.size : Nat) : Int) := by
      by_cases hm : m < ts.length
      · have hmem := hle ts[m] (List.getElem_mem hm)
        rw [outT_get s.size s ts m ts[m] (List.getElem?_eq_getElem hm)]
        refine ⟨s.size - ts[m].2.2, rfl, by omega, ?_⟩
        by_cases hmi : m < i
        · have hum : us[m]? = some (shiftR g.size ts[m]) := by
            rw [hu, List.getElem?_append_left (by simp; omega), List.getElem?_map, List.getElem?_take_of_lt hmi, List.getElem?_eq_getElem hm]; rfl
          rw [outT_get s'.size s' us m _ hum, if_pos hmi]
          show ((s'.size - (ts[m].2.2 + g.size) : Nat) : Int) = _
          rw [hs']; congr 1; omega
        · have hum : us[m]? = some ts[m] := by
            rw [hu, List.getElem?_append_right (by simp; omega), List.getElem?_drop, List.length_map, List.length_take, show i + (m - min i ts.length) = m by omega, List.getElem?_eq_getElem hm]
          rw [outT_get s'.size s' us m _ hum, if_neg hmi]
          show ((s'.size - ts[m].2.2 : Nat) : Int) = _
          rw [hs']; congr 1; omega
      · have : m = ts.length := by omega
        subst this
        rw [outT_end]
        refine ⟨s.size, rfl, Nat.le_refl _, ?_⟩
        rw [← hul, outT_end, if_neg (by omega)]
        show (s'.size : Int) = _
        rw [hs']
    obtain ⟨p, hp, hp2, hp3⟩ := hpos
    have hw2 : ∀ _u : Unit, wrap64 ((p : Int) + (g.size : Int)) = ((p + g.size : Nat) : Int) := fun _ => by unfold wrap64; omega
    rw [show k + (d + 1) + 1 = (k + d + 1) + 1 by omega, bournelaw13_LexSpaces.l3, hp, hp3, hgs, hw, hw2 (), outT_len, outT_len, hul, if_pos (by omega), if_pos (by omega)]
    by_cases hmi : m < i
    · rw [if_neg (by omega), if_pos (by omega), if_pos (by rw [if_pos hmi]; rfl)]
      exact ih
    · rw [if_pos (by omega), if_pos (by omega), if_pos (by omega), if_pos (by omega), if_pos (by rw [if_neg hmi])]
      exact ih

theorem same_shift (n m : Nat) (s t : ByteArray) (g i : Nat) (ts : List RTok) : (outT n s ts).map (keyT false) = (outT m t ((ts.take i).map (shiftR g) ++ ts.drop i)).map (keyT false) := by
  refine PureO.same_toks n m s t ts _ ?_
  rw [List.map_append, List.map_map]
  conv => rhs; rw [← List.take_append_drop i ts, List.map_append]
  rfl

/-- The gap's round. -/
theorem sp_l2 (s : ByteArray) (hs : s.size ≤ 2000) (ts : List RTok) (ht : Toks (skipL false s.data.toList) ts) (i : Nat) (hi : i < ts.length + 1) (gs : List ByteArray) (hgs : ∀ g ∈ gs, Gap g.data.toList ∧ g.size ≤ 1000) (hgl : gs.length = 4) (at_ : Int) (hat : ∀ _u : Unit, at_ = (rd_T32 (outT s.size s ts) (i : Int)).f2) :
    ∀ (d x : Nat), x + d = 4 → ∀ k, 10000 * (d + 1) ≤ k → bournelaw13_LexSpaces.l2 k s (i : Int) true (outT s.size s ts) gs at_ (x : Int) = some true
  | 0, x, h => by
    intro k hk
    obtain ⟨k, rfl⟩ : ∃ j, k = j + 1 := ⟨k - 1, by omega⟩
    rw [bournelaw13_LexSpaces.l2, if_neg (by omega)]
  | d + 1, x, h => by
    intro k hk
    obtain ⟨k, rfl⟩ : ∃ j, k = j + 1 + 1 + 1 := ⟨k - 3, by omega⟩
    have hsk := Lex.skip_length false s.data.toList
    have hsz : s.data.toList.length = s.size := rfl
    have hln := ht.len
    have hle1 : ∀ t ∈ ts, t.2.2 ≤ s.size := by
      intro t hm
      have h1 := Lex.toks_left ht t hm
      omega
    have hle : ∀ t ∈ ts, t.2.2 ≤ s.size ∧ t.2.1.length ≤ t.2.2 := fun t hm => ⟨hle1 t hm, Lex.toks_raw ht t hm⟩
    obtain ⟨u, v, b, hl, hv, hok, hlt, hgap, hpre, w, x0, hux, hst, hi0, hlast⟩ := Lex.gap_toks i s.data.toList ts ht (by omega)
    have hn : s.size = u.length + v.length := by rw [← List.length_append, ← hl]; rfl
    have hat' : ∀ _u : Unit, at_ = ((u.length : Nat) : Int) := fun _ => by
      rw [hat ()]
      by_cases hm : i < ts.length
      · rw [outT_get s.size s ts i ts[i] (List.getElem?_eq_getElem hm)]
        rw [List.getElem?_eq_getElem hm] at hv
        have hv' : v.length = ts[i].2.2 := hv
        show ((s.size - ts[i].2.2 : Nat) : Int) = _
        rw [← hv']; congr 1; omega
      · have : i = ts.length := by omega
        subst this
        rw [outT_end]
        have hv0 : v.length = 0 := by rw [hv, List.getElem?_eq_none (by omega)]; rfl
        show ((s.size : Nat) : Int) = _
        rw [hn, hv0]; rfl
    have hx4 : x < gs.length := by omega
    have hg0 : rdOf ByteArray.empty gs (x : Int) = gs[x] := by
      unfold rdOf
      rw [Int.toNat_natCast, List.getD_eq_getElem?_getD, List.getElem?_eq_getElem hx4]; rfl
    obtain ⟨hgG, hgs1⟩ := hgs gs[x] (List.getElem_mem hx4)
    generalize hgx : gs[x] = g at hg0 hgG hgs1
    obtain ⟨s', hs'⟩ : ∃ s', (s.extract 0 u.length ++ g) ++ s.extract u.length s.size = s' := ⟨_, rfl⟩
    have hsl : s'.data.toList = u ++ g.data.toList ++ v := by
      rw [← hs']
      have e1 : (s.extract 0 u.length).data.toList = u := by rw [Lex.list_take, hl]; simp
      have e2 : (s.extract u.length s.size).data.toList = v := by
        have := Lex.list_drop s u.length
        rw [this, hl]; simp
      simp only [ByteArray.data_append, Array.toList_append, e1, e2]
    have hsz' : s'.size = s.size + g.size := by
      have h1 : s'.data.toList.length = s'.size := rfl
      have h2 : g.data.toList.length = g.size := rfl
      rw [← h1, hsl, List.length_append, List.length_append, h2]; omega
    obtain ⟨us, hus⟩ : ∃ us, us = (ts.take i).map (shiftR g.size) ++ ts.drop i := ⟨_, rfl⟩
    have hul : us.length = ts.length := by rw [hus]; simp; omega
    obtain ⟨R, hR⟩ : ∃ R, lex_Scan.f s' = some R := ⟨_, scan_f s' (by omega)⟩
    have hRb : b = false → R = (outT s'.size s' us, 0, 0) := fun hb => by
      have h1 := scan_toks s' (by omega) us (by rw [hsl, hus]; exact hgap g.data.toList hgG hb)
      rw [hR] at h1
      exact Option.some.inj h1
    have hw := fun _ : Unit => wrapN x (by omega)
    have hnext : ∀ k', 10000 * (d + 1) ≤ k' → bournelaw13_LexSpaces.l2 k' s (i : Int) true (outT s.size s ts) gs at_ (wrap64 ((x : Int) + 1)) = some true := by
      intro k' hk'
      rw [hw ()]
      exact sp_l2 s hs ts ht i hi gs hgs hgl at_ hat d (x + 1) (by omega) k' hk'
    have hj5 : ∀ c, (c = false → b = false) → bournelaw13_LexSpaces.j5 (k + 1 + 1) s (i : Int) true (outT s.size s ts) gs at_ (x : Int) R.1 R.2.1 c = some true := by
      intro c hc
      cases c with
      | true =>
        rw [bournelaw13_LexSpaces.j5, if_pos rfl]
        exact hnext (k + 1) (by omega)
      | false =>
        rw [bournelaw13_LexSpaces.j5, if_neg (by decide), hRb (hc rfl)]
        dsimp only
        have hsame := same_f false (outT s.size s ts) (outT s'.size s' us) (by rw [hus]; exact same_shift _ _ _ _ _ _ _) (by rw [outT_len]; omega) (k + 1) (by rw [outT_len]; omega)
        rw [if_pos rfl, hsame, Option.bind_some]
        show bournelaw13_LexSpaces.j6 (k + 1) s (i : Int) true (outT s.size s ts) gs at_ (x : Int) (outT s'.size s' us) false = some true
        rw [bournelaw13_LexSpaces.j6, if_neg (by decide)]
        obtain ⟨k2, rfl⟩ : ∃ k2, k = k2 + (ts.length + 1) + 1 := ⟨k - ts.length - 2, by omega⟩
        exact (sp_l3 s (by omega) i ts us g hgs1 s' hsz' gs at_ x hx4 hg0 (by omega) (by omega) hus hle1 k2 (ts.length + 1) 0 (by omega)).trans (hnext k2 (by omega))
    have hsx : (s.extract 0 u.length ++ g).size + (s.extract u.length s.size).size = s'.size := by rw [← hs']; simp only [ByteArray.size_append]
    have hsx2 : (s.extract 0 u.length ++ g).size = (s.extract 0 u.length).size + g.size := ByteArray.size_append
    rw [bournelaw13_LexSpaces.l2, hat' (), Int.toNat_natCast, hg0, hs', hR, outT_len, if_pos (by omega), if_pos (by omega), if_pos (by omega), if_pos (by omega), if_pos (by omega), if_pos (by omega), Option.bind_some, if_pos (by omega), if_pos (by omega)]
    rw [← hat' ()]
    by_cases hm : i < ts.length
    · have hgd := Lex.toks_good ht ts[i] (List.getElem_mem hm)
      have hkd : ∀ _u : Unit, (rd_T32 (outT s.size s ts) (i : Int)).f0 = ts[i].1 := fun _ => by rw [outT_get s.size s ts i ts[i] (List.getElem?_eq_getElem hm)]; rfl
      rw [hkd (), if_neg (by rcases hgd.kind with h1 | h1 | h1 | h1 <;> rw [h1] <;> decide)]
      exact hj5 false fun _ => (hlt hm).2
    · have hie : i = ts.length := by omega
      subst hie
      have hkd : ∀ _u : Unit, (rd_T32 (outT s.size s ts) (ts.length : Int)).f0 = 4 := fun _ => by rw [outT_end]; rfl
      rw [hkd (), if_pos rfl]
      obtain ⟨fr, hcf, hf0, hfl⟩ := com_f s.size s (by omega) rfl ts (by omega) hle (k + 1 + 1) (by omega)
      rw [hcf, Option.bind_some]
      refine hj5 _ fun hc => ?_
      have hv0 : v = [] := List.eq_nil_of_length_eq_zero (by rw [hv, List.getElem?_eq_none (by omega)]; rfl)
      have hfx : fr ≤ x0.length := by
        rcases hts : ts.length with _ | j
        · rw [hf0 (List.eq_nil_of_length_eq_zero hts)]; omega
        · obtain ⟨t, h1, h2⟩ := hlast j hts
          have h3 := hfl j t hts h1
          have h4 := hle t (List.mem_of_getElem? h1)
          omega
      have hdr : s.data.toList.drop fr = x0.drop fr ++ w := by
        rw [hl, hv0, List.append_nil, hux, List.drop_append_of_le_length hfx]
      rw [hdr] at hc
      exact Lex.openL_more _ w b hc hst

/-- The comment's round: it has a line feed, or all of it is seen. -/
theorem sp_l1 (s : ByteArray) (i : Int) (c : ByteArray) (hc : c.size ≤ 500) (x8 : List S32) (k : Nat) (hend : (∀ a ∈ c.data.toList, a ≠ 10) → bournelaw13_LexSpaces.l1 (k + 1) s i c true x8 (c.size : Int) = some true) : ∀ (d m : Nat), m + d = c.size → (∀ a ∈ c.data.toList.take m, a ≠ 10) → bournelaw13_LexSpaces.l1 (k + d + 1) s i c true x8 (m : Int) = some true
  | 0, m, h, hp => by
    have : m = c.size := by omega
    subst this
    refine hend fun a ha => hp a ?_
    rw [List.take_of_length_le (show c.data.toList.length ≤ c.size from Nat.le_refl _)]; exact ha
  | d + 1, m, h, hp => by
    have hm : m < c.data.toList.length := by show m < c.size; omega
    obtain ⟨a, r, hd⟩ : ∃ a r, c.data.toList.drop m = a :: r := ⟨_, _, List.drop_eq_getElem_cons hm⟩
    obtain ⟨hb, hlt, hr⟩ := bt_drop c m a r hd
    have hw := wrapN m (by omega)
    rw [show k + (d + 1) + 1 = (k + d + 1) + 1 by omega, bournelaw13_LexSpaces.l1, if_pos (by omega), if_pos (by omega), hb, hw]
    by_cases h10 : (a.toNat : Int) = 10
    · rw [if_pos h10]
    · rw [if_neg h10]
      refine sp_l1 s i c hc x8 k hend d (m + 1) (by omega) ?_
      intro e he
      have h3 : c.data.toList[m] = a := by
        have h4 := List.drop_eq_getElem_cons hm
        rw [hd] at h4
        injection h4 with h5 h6
        exact h5.symm
      rw [List.take_succ_eq_append_getElem hm, List.mem_append] at he
      rcases he with he | he
      · exact hp e he
      · rw [List.mem_singleton, h3] at he
        subst he
        rintro rfl
        exact h10 rfl

theorem LexSpaces : bournelaw13_LexSpaces.Pure := by
  intro a0 a1 a2 w0 w1 w2
  refine ⟨70000 + 1 + 1, ?_⟩
  unfold bournelaw13_LexSpaces.f
  rw [small_ok _ (by omega), Option.bind_some]
  have hj : ∀ b, (b = false → a0.size ≤ 2000 ∧ a2.size ≤ 500) → bournelaw13_LexSpaces.j0 (70000 + 1 + 1) a0 a1 a2 true b = some true := by
    intro b hb
    cases b with
    | true => rw [bournelaw13_LexSpaces.j0, if_pos rfl]
    | false =>
      obtain ⟨h1, h2⟩ := hb rfl
      have hsk := Lex.skip_length false a0.data.toList
      have hsz : a0.data.toList.length = a0.size := rfl
      have hj1 : ∀ x8, bournelaw13_LexSpaces.j1 (70000 + 1) a0 a1 a2 true x8 true = some true := fun x8 => by rw [bournelaw13_LexSpaces.j1, if_pos rfl]
      rw [bournelaw13_LexSpaces.j0, if_neg (by decide)]
      rcases Lex.scanV_cases a0 (by omega) with ⟨ts, ht, _⟩ | ⟨r, hf, _⟩
      · have hln := ht.len
        have hsc := scan_toks a0 (by omega) ts ht
        have hsc' : lex_Scan.f a0 = some (outT a0.size a0 ts, 0, 0) := hsc
        rw [hsc', Option.bind_some]
        dsimp only
        rw [if_pos rfl]
        by_cases hn : a1 < 0
        · rw [if_pos hn]; exact hj1 _
        · rw [if_neg hn]
          by_cases hg : a1 ≥ ((outT a0.size a0 ts).length : Int)
          · rw [decide_eq_true hg]; exact hj1 _
          · rw [decide_eq_false hg, bournelaw13_LexSpaces.j1, if_neg (by decide)]
            rw [outT_len] at hg
            obtain ⟨i, rfl⟩ := Int.eq_ofNat_of_zero_le (by omega : 0 ≤ a1)
            have hle1 : ∀ t ∈ ts, t.2.2 ≤ a0.size := by
              intro t hm
              have h1 := Lex.toks_left ht t hm
              omega
            obtain ⟨k, hk⟩ : ∃ k, 70000 = k + a2.size + 1 + (ts.length + 1) + 1 := ⟨70000 - a2.size - ts.length - 3, by omega⟩
            rw [hk]
            refine (sp_l0 a0 (by omega) (i : Int) a2 ts (by omega) hle1 (k + a2.size + 1) (ts.length + 1) 0 (by omega)).trans ?_
            refine sp_l1 a0 (i : Int) a2 h2 _ k (fun hc => ?_) a2.size 0 (by omega) (by simp)
            have hs3 : (⟨#[32, 35]⟩ : ByteArray).size = 2 := rfl
            have hs4 : (⟨#[10]⟩ : ByteArray).size = 1 := rfl
            rw [bournelaw13_LexSpaces.l1, outT_len, if_neg (by omega), if_pos (by omega), if_pos (by rw [ByteArray.size_append]; omega), if_pos (by omega), if_pos (by omega)]
            refine sp_l2 a0 h1 ts ht i (by omega) _ ?_ rfl _ (fun _ => rfl) 4 0 (by omega) k (by omega)
            intro g hg
            simp only [List.mem_cons, List.not_mem_nil, or_false] at hg
            rcases hg with rfl | rfl | rfl | rfl
            · exact ⟨Lex.gap_blank _ (by decide), by decide⟩
            · exact ⟨Lex.gap_blank _ (by decide), by decide⟩
            · exact ⟨Lex.gap_blank _ (by decide), by decide⟩
            · refine ⟨?_, by rw [ByteArray.size_append, ByteArray.size_append]; omega⟩
              have e : (((⟨#[32, 35]⟩ : ByteArray) ++ a2) ++ (⟨#[10]⟩ : ByteArray)).data.toList = 32 :: 35 :: (a2.data.toList ++ [10]) := by simp
              rw [e]
              exact Lex.gap_comment _ hc
      · rw [scan_fails a0 (by omega) r hf, Option.bind_some]
        dsimp only
        rw [if_neg (by decide)]
        exact hj1 _
  split
  · exact hj true (fun h => by cases h)
  · refine hj _ fun h => ?_
    simp only [decide_eq_false_iff_not] at h
    omega
end Go.Proofs.YtjhinmdnabmdoaaDoor.Pure
