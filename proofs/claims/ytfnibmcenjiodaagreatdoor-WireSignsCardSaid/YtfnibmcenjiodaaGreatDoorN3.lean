/- The reference's given, Count, Read, Mend and its comparisons, in plain Lean. No statement of the seat is proved here. -/
import Derived.Test.YtfnibmcenjiodaaGreatDoorN2
import Derived.Test.YtfnibmcenjiodaaGreatDoorM11
import Derived.Test.YtfnibmcenjiodaaGreatDoorR4
namespace Go.Proofs.YtfnibmcenjiodaaGreatDoor.N
open Go.Sort Go.Shelf Go.RowKit Go.Proofs.YtfnibmcenjiodaaGreatDoorW.PrintWords Go.Proofs.YtfnibmcenjiodaaGreatDoorW.PrintLast Go.Proofs.YtfnibmcenjiodaaGreatDoorW.PrintMore
open Go.Proofs.YtfnibmcenjiodaaGreatDoor.M Go.Proofs.YtfnibmcenjiodaaGreatDoor.R

theorem given_f (l : List ByteArray) (hl : l.length ≤ 12) (hw : ∀ x ∈ l, x.size ≤ 12) (s : ByteArray) (hs : s.size < 4611686018427) (k : Nat) (hk : s.size + 700 < k) : oilcakeref11_given.f k l s = some (givenE l s) := by
  unfold oilcakeref11_given.f
  rw [codeOk_f l hl hw k (by omega)]
  simp only [Option.bind_some]
  unfold givenE
  cases h : codeOk l
  · rfl
  · simp only [if_true]
    by_cases hb : 250 < s.size
    · rw [if_pos (by omega)]; simp [hb]
    · rw [if_neg (by omega), signs_f s (by omega) k (by omega)]
      simp only [Option.bind_some]
      cases isSigns s <;> simp [hb]
theorem codeOk_words' {l : List ByteArray} (h : codeOk l = true) : ∀ x ∈ l, 1 ≤ x.size ∧ x.size ≤ 12 := fun x hx => by have := codeOk_words h x hx; omega
theorem count_f (l : List ByteArray) (hl : l.length ≤ 12) (hw : ∀ x ∈ l, x.size ≤ 12) (s : ByteArray) (hs : s.size < 4611686018427) (k : Nat) (hk : 20 * s.size + 700 < k) : oilcakeref11_Count.f k l s = some (countR l s) := by
  unfold oilcakeref11_Count.f
  rw [given_f l hl hw s hs k (by omega)]
  simp only [Option.bind_some]
  unfold countR
  by_cases h : givenE l s = 0
  · rw [if_pos h, if_pos h, ways_f l hl (codeOk_words' (givenE_ok h)) s hs k (by omega)]
    simp only [Option.bind_some]
    rw [if_pos (by rw [waysL_len]; omega), waysL_zero]
    by_cases hb : 1000000 < waysV l s
    · rw [if_pos hb, if_pos hb]
    · rw [if_neg hb, if_neg hb]
  · rw [if_neg h, if_neg h]

/-! ### Read -/
theorem find_append_none {α : Type} (p : α → Bool) {a b : List α} (h : a.find? p = none) : (a ++ b).find? p = b.find? p := by rw [List.find?_append, h]; rfl
theorem read_l (ws : List ByteArray) (hl : ws.length ≤ 12) (hw : ∀ x ∈ ws, 1 ≤ x.size ∧ x.size ≤ 12) (s : ByteArray) (hs : s.size ≤ 1000000) : ∀ k : Nat,
    (∀ (i : Nat) (out : List Int), i ≤ s.size → out.length ≤ i → 0 < waysV ws (sfx s i) → 20 * (s.size - i) + 2 < k → oilcakeref11_Read.l0 k s (waysL ws s) out (i : Int) ws = some (out ++ readF ws ((sfx s i).size + 1) (sfx s i), 0)) ∧
    (∀ (i m : Nat) (out : List Int), i < s.size → out.length ≤ i → 0 < waysV ws (sfx s i) → m ≤ ws.length → (headsTo ws (sfx s i) m).find? (fun x => decide (0 < waysV ws x.2)) = none → 20 * (s.size - i - 1) + 6 + (ws.length - m) < k →
      oilcakeref11_Read.l1 k s (waysL ws s) out (i : Int) ws (ws.length : Int) (m : Int) ws = some (out ++ readF ws ((sfx s i).size + 1) (sfx s i), 0))
  | 0 => ⟨fun _ _ _ _ _ h => by omega, fun _ _ _ _ _ _ _ _ h => by omega⟩
  | k + 1 => by
    obtain ⟨ih0, ih1⟩ := read_l ws hl hw s hs k
    refine ⟨fun i out hi ho hp hk => ?_, fun i m out hi ho hp hm hf hk => ?_⟩
    · unfold oilcakeref11_Read.l0
      by_cases hlt : i < s.size
      · rw [if_pos (by omega)]
        have := ih1 i 0 out hlt ho hp (by omega) rfl (by omega)
        rw [show ((0 : Nat) : Int) = 0 from rfl] at this
        exact this
      · obtain rfl : i = s.size := by omega
        rw [if_neg (by omega), sfx_end, readF, if_pos (by decide), List.append_nil]
    · unfold oilcakeref11_Read.l1
      have hsz0 : (sfx s i).size ≠ 0 := by rw [sfx_size]; omega
      by_cases hlt : m < ws.length
      · have hmem : rdOf ByteArray.empty ws (m : Int) ∈ ws := by rw [rdOf_nat _ _ _ hlt]; exact List.getElem_mem hlt
        have hsz := hw _ hmem
        have hsc := headsTo_succ ws (sfx s i) m
        have hpre := headsTo_prefix ws (sfx s i) (show m + 1 ≤ ws.length by omega)
        have hnext := fun h => ih1 i (m + 1) out hi ho hp (by omega) h (by omega)
        have hgo := ih0 (i + (rdOf ByteArray.empty ws (m : Int)).size) (out ++ [((m + 1 : Nat) : Int)])
        have c1 : (m : Int) < (ws.length : Int) := by omega
        have c2 : (0 : Int) ≤ (m : Int) := by omega
        have c3 : (0 : Int) ≤ (i : Int) := by omega
        have c4 : (i : Int) ≤ (s.size : Int) := by omega
        rw [if_pos c1, if_pos c2, if_pos c1, if_pos c3, if_pos c4, Int.toNat_natCast, show s.extract i s.size = sfx s i from rfl, begins_f]
        simp only [Option.bind_some]
        rw [w64s m (by omega)]
        unfold headAt at hsc
        obtain ⟨x, hx⟩ : ∃ x, x = rdOf ByteArray.empty ws (m : Int) := ⟨_, rfl⟩
        rw [← hx] at hsz hsc hgo ⊢
        clear hx hmem
        cases hst : startsB (sfx s i) x
        · rw [hst] at hsc
          simp only [Bool.false_eq_true, if_false, List.append_nil] at hsc ⊢
          exact hnext (by rw [hsc]; exact hf)
        · rw [hst] at hsc
          simp only [if_true] at hsc ⊢
          have hle := startsB_size hst
          rw [sfx_size] at hle
          rw [restOf_sfx _ _ _ hst] at hsc
          have hat := waysL_at ws s (i + x.size) (by omega)
          have hlen := waysL_len ws s
          have c6 : (0 : Int) ≤ ((i + x.size : Nat) : Int) := by omega
          have c7 : ((i + x.size : Nat) : Int) < ((waysL ws s).length : Int) := by rw [hlen]; omega
          have c8 : out.length < 17592186044416 := by omega
          have c9 : i + x.size ≤ s.size := by omega
          have c10 : (out ++ [((m + 1 : Nat) : Int)]).length ≤ i + x.size := by simp; omega
          have c11 : 20 * (s.size - (i + x.size)) + 2 < k := by omega
          have hix : wrap64 ((i : Int) + (x.size : Int)) = ((i + x.size : Nat) : Int) := by rw [w64 _ (by omega)]; omega
          rw [hix, if_pos c6, if_pos c7, hat]
          clear hix
          by_cases hpos : 0 < waysV ws (sfx s (i + x.size))
          · rw [if_pos hpos, if_pos c8, hgo c9 c10 hpos c11]
            have hfind : (headsL ws (sfx s i)).find? (fun x => decide (0 < waysV ws x.2)) = some ((m : Int) + 1, sfx s (i + x.size)) := by
              rw [hsc] at hpre
              refine find_prefix _ hpre (fun y hy => ?_) (by simpa using hpos)
              exact by simpa using List.find?_eq_none.1 hf y hy
            have hq : readF ws ((sfx s i).size + 1) (sfx s i) = ((m : Int) + 1) :: readF ws (sfx s i).size (sfx s (i + x.size)) := by rw [readF, if_neg hsz0, hfind]
            rw [hq, readF_eq ws (fun y hy => (hw y hy).1) (sfx s i).size ((sfx s (i + x.size)).size + 1) _ (by rw [sfx_size, sfx_size]; omega) (by omega)]
            simp
          · rw [if_neg hpos]
            exact hnext (by rw [hsc, find_append_none _ hf]; simpa using hpos)
      · obtain rfl : m = ws.length := by omega
        exfalso
        have h := waysV_step ws (fun x hx => (hw x hx).1) (sfx s i) hsz0
        rw [fold_zero (fun x => waysV ws x.2) (fun x => (waysV_bd ws x.2).1) (headsL ws (sfx s i)) (fun x hx => by
          have := List.find?_eq_none.1 hf x hx
          have h2 := (waysV_bd ws x.2).1
          simp at this
          omega)] at h
        omega
theorem waysV_zero_or (ws : List ByteArray) (s : ByteArray) : waysV ws s = 0 ∨ 0 < waysV ws s := by have := waysV_bd ws s; omega
theorem read_f (l : List ByteArray) (hl : l.length ≤ 12) (hw : ∀ x ∈ l, x.size ≤ 12) (s : ByteArray) (hs : s.size ≤ 1000000) (k : Nat) (hk : 20 * s.size + 700 < k) : oilcakeref11_Read.f k l s = some (readR l s) := by
  unfold oilcakeref11_Read.f
  rw [given_f l hl hw s (by omega) k (by omega)]
  simp only [Option.bind_some]
  unfold readR
  by_cases h : givenE l s = 0
  · rw [if_pos h, if_pos h, ways_f l hl (codeOk_words' (givenE_ok h)) s (by omega) k (by omega)]
    simp only [Option.bind_some]
    rw [if_pos (by rw [waysL_len]; omega), waysL_zero]
    by_cases hb : waysV l s = 0
    · rw [if_pos hb, if_pos hb]
    · rw [if_neg hb, if_neg hb]
      have := (read_l l hl (codeOk_words' (givenE_ok h)) s hs k).1 0 [] (by omega) (by simp) (by rw [sfx_zero]; rcases waysV_zero_or l s with h | h; exact absurd h hb; exact h) (by omega)
      rw [show ((0 : Nat) : Int) = 0 from rfl, sfx_zero] at this
      rw [this]; rfl
  · rw [if_neg h, if_neg h]

/-! ### Mend -/
abbrev leD (a b : ByteArray) : Prop := a.data.toList ≤ b.data.toList
theorem lt_iff (a b : ByteArray) : Op.bytesLess a.toList b.toList = true ↔ a.data.toList < b.data.toList := by rw [bytesLess_eq, decide_eq_true_eq, Lib.toList_data, Lib.toList_data]
theorem gTurned_f (s : ByteArray) (hs : s.size ≤ 1000000) (i : Nat) (hi : i < s.size) : gTurned.f s (i : Int) = some (turnAt s i) := by
  unfold gTurned.f
  rw [if_pos ⟨by omega, by omega, by omega⟩, Int.toNat_natCast]
/-- What the list of what signs may have been is, when i places have been looked at. -/
structure MendOk (ws : List ByteArray) (s : ByteArray) (i : Nat) (out : List ByteArray) : Prop where
  sorted : out.Pairwise leD
  perm : out.Perm (mendTo ws s i)
theorem mendOk_eq {ws : List ByteArray} {s : ByteArray} {out : List ByteArray} (h : MendOk ws s s.size out) : out = mendSorted ws s := by
  have hmap : out.map (fun x => x.data.toList) = sortB (mendTo ws s s.size) := by
    have hp1 : (out.map (fun x : ByteArray => x.data.toList)).Pairwise (fun a b => a ≤ b) := by
      rw [List.pairwise_map]; exact h.sorted
    exact List.Perm.eq_of_pairwise (le := fun a b => a ≤ b) (fun a b _ _ h1 h2 => List.le_antisymm h1 h2) hp1 (sortB_pairwise _) ((h.perm.map _).trans (sortB_perm _).symm)
  unfold mendSorted
  rw [← hmap, List.map_map]
  conv => lhs; rw [← List.map_id out]
  apply List.map_congr_left
  intro x _
  simp only [Function.comp, id]
set_option maxHeartbeats 1000000 in
theorem mend_l (ws : List ByteArray) (hl : ws.length ≤ 12) (hw : ∀ x ∈ ws, 1 ≤ x.size ∧ x.size ≤ 12) (s : ByteArray) (hs : s.size ≤ 1000) (k : Nat) :
    (∀ (i : Nat) (out : List ByteArray), i ≤ s.size → out.length ≤ i → MendOk ws s i out → 25000 + 2000 * (s.size - i) < k → oilcakeref11_Mend.l0 k s out (i : Int) ws = some (if mendTo ws s s.size = [] then ([], 6) else (mendSorted ws s, 0))) ∧
    (∀ (i : Nat) (t : ByteArray) (pre post : List ByteArray), i < s.size → pre.length + post.length ≤ i → MendOk ws s i (pre ++ post) → t = turnAt s i → 0 < waysV ws t → (∀ b ∈ post, t.data.toList < b.data.toList) → 25000 + 2000 * (s.size - i - 1) + pre.length + 1 < k →
      oilcakeref11_Mend.l1 k s (pre ++ t :: post) (i : Int) (pre.length : Int) ws = some (if mendTo ws s s.size = [] then ([], 6) else (mendSorted ws s, 0))) := by
  induction k with
  | zero => exact ⟨fun _ _ _ _ _ h => absurd h (Nat.not_lt_zero _), fun _ _ _ _ _ _ _ _ _ _ h => absurd h (Nat.not_lt_zero _)⟩
  | succ k ih =>
    obtain ⟨ih0, ih1⟩ := ih
    have next : ∀ (i : Nat) (t : ByteArray) (pre post : List ByteArray), i < s.size → pre.length + post.length ≤ i → MendOk ws s i (pre ++ post) → t = turnAt s i → 0 < waysV ws t → (∀ b ∈ post, t.data.toList < b.data.toList) → (∀ b ∈ pre, leD b t) → 25000 + 2000 * (s.size - i - 1) < k →
        oilcakeref11_Mend.l0 k s (pre ++ t :: post) ((i + 1 : Nat) : Int) ws = some (if mendTo ws s s.size = [] then ([], 6) else (mendSorted ws s, 0)) := by
      intro i t pre post hi hlen hM ht hp hpost hpre hk
      refine ih0 (i + 1) _ (by omega) (by simp; omega) ⟨?_, ?_⟩ (by omega)
      · have hs0 := List.pairwise_append.1 hM.sorted
        rw [List.pairwise_append, List.pairwise_cons]
        refine ⟨hs0.1, ⟨fun b hb => List.le_of_lt (hpost b hb), hs0.2.1⟩, fun a ha b hb => ?_⟩
        rcases List.mem_cons.1 hb with rfl | hb
        · exact hpre a ha
        · exact hs0.2.2 a ha b hb
      · rw [mendTo_succ]
        have : mendAt ws s i = [t] := by unfold mendAt; rw [← ht, if_pos hp]
        rw [this]
        refine (List.perm_middle).trans ?_
        refine ((hM.perm.cons t)).trans ?_
        exact (List.perm_append_singleton t _).symm
    refine ⟨fun i out hi ho hM hk => ?_, fun i t pre post hi hlen hM ht hp hpost hk => ?_⟩
    · unfold oilcakeref11_Mend.l0
      by_cases hlt : i < s.size
      · have hgt := gTurned_f s (Nat.le_trans hs (by decide)) i hlt
        have hts := turnAt_size s i hlt
        have hwf : ∀ t : ByteArray, t.size = s.size → oilcakeref11_Ways.f k ws t = some (waysL ws t) := fun t e => ways_f ws hl hw t (by omega) k (by omega)
        have hwt := hwf _ hts
        have hlen : ∀ t : ByteArray, (0 : Int) < ((waysL ws t).length : Int) := fun t => by rw [waysL_len]; omega
        have c0 : (i : Int) < (s.size : Int) := by omega
        rw [if_pos c0, hgt, Option.bind_some, hwt, Option.bind_some, if_pos (hlen _), waysL_zero]
        clear hgt hts hwf hwt hlen
        by_cases hp : 0 < waysV ws (turnAt s i)
        · rw [if_pos hp, if_pos (by omega), Option.bind_some]
          have hn := ih1 i (turnAt s i) out [] hlt (by simpa using ho) (by simpa using hM) rfl hp (by simp) (by omega)
          have hj : wrap64 (((out ++ [turnAt s i]).length : Int) - 1) = (out.length : Int) := by
            rw [List.length_append, List.length_singleton, w64 _ (by omega)]; omega
          rw [hj]
          exact hn
        · rw [if_neg hp, w64s i (by omega)]
          refine ih0 (i + 1) out (by omega) (by omega) ⟨hM.sorted, ?_⟩ (by omega)
          rw [mendTo_succ]
          have : mendAt ws s i = [] := by unfold mendAt; rw [if_neg hp]
          rw [this, List.append_nil]
          exact hM.perm
      · obtain rfl : i = s.size := by omega
        rw [if_neg (by omega)]
        by_cases h0 : out.length = 0
        · have he : out = [] := List.eq_nil_of_length_eq_zero h0
          subst he
          have : mendTo ws s s.size = [] := hM.perm.nil_eq.symm
          rw [if_pos (by simp), if_pos this]
        · have : mendTo ws s s.size ≠ [] := by
            intro e
            have := hM.perm
            rw [e] at this
            have := this.eq_nil
            rw [this] at h0
            exact h0 rfl
          rw [if_neg (by omega), if_neg this, mendOk_eq hM]
    · unfold oilcakeref11_Mend.l1
      rcases List.eq_nil_or_concat pre with rfl | ⟨p, b, rfl⟩
      · rw [if_neg (by simp), w64s i (by omega)]
        exact next i t [] post hi hlen hM ht hp hpost (by simp) (by omega)
      · rw [List.concat_eq_append] at *
        have hlp : (p ++ [b]).length = p.length + 1 := by simp
        rw [hlp] at hlen hk ⊢
        have hr1 : rdOf ByteArray.empty (p ++ [b] ++ t :: post) ((p.length + 1 : Nat) : Int) = t := by
          rw [rdOf_nat _ _ _ (by simp), List.getElem_append_right (by simp)]; simp
        have hr0 : rdOf ByteArray.empty (p ++ [b] ++ t :: post) ((p.length : Nat) : Int) = b := by
          rw [rdOf_nat _ _ _ (by simp <;> omega), List.getElem_append_left (by simp), List.getElem_append_right (by simp)]; simp
        have c1 : ((p.length + 1 : Nat) : Int) > 0 := by omega
        have c2 : (0 : Int) ≤ ((p.length + 1 : Nat) : Int) := by omega
        have c3 : ((p.length + 1 : Nat) : Int) < ((p ++ [b] ++ t :: post).length : Int) := by simp; omega
        have c4 : (0 : Int) ≤ (p.length : Int) := by omega
        have c5 : (p.length : Int) < ((p ++ [b] ++ t :: post).length : Int) := by simp; omega
        have c6 : 25000 + 2000 * (s.size - i - 1) < k := by omega
        have c7 : 25000 + 2000 * (s.size - i - 1) + p.length + 1 < k := by omega
        have c8 : i < 9223372036854775807 := by omega
        have hw1 : wrap64 (((p.length + 1 : Nat) : Int) - 1) = (p.length : Int) := by rw [w64 _ (by omega)]; omega
        rw [if_pos c1, if_pos c2, if_pos c3, hw1, if_pos c4, if_pos c5, hr1, hr0, w64s i c8]
        clear hw1
        by_cases hlt : Op.bytesLess t.toList b.toList = true
        · rw [if_pos hlt]
          have hset : ((p ++ [b] ++ t :: post).set ((p.length + 1 : Nat) : Int).toNat b).set (p.length : Int).toNat t = p ++ t :: (b :: post) := by
            rw [Int.toNat_natCast, Int.toNat_natCast]
            simp
          rw [hset]
          refine ih1 i t p (b :: post) hi (by simp; omega) (by simpa using hM) ht hp (fun x hx => ?_) c7
          rcases List.mem_cons.1 hx with rfl | hx
          · exact (lt_iff _ _).1 hlt
          · exact hpost x hx
        · rw [if_neg hlt]
          have hbt : leD b t := by
            rw [lt_iff] at hlt
            exact List.not_lt.1 hlt
          refine next i t (p ++ [b]) post hi (by simp; omega) hM ht hp hpost (fun x hx => ?_) c6
          rcases List.mem_append.1 hx with hx | hx
          · have hs0 := (List.pairwise_append.1 (List.pairwise_append.1 hM.sorted).1).2.2 x hx b (by simp)
            exact List.le_trans hs0 hbt
          · rw [List.mem_singleton] at hx; rw [hx]; exact hbt
theorem mend_f (l : List ByteArray) (hl : l.length ≤ 12) (hw : ∀ x ∈ l, x.size ≤ 12) (s : ByteArray) (hs : s.size ≤ 1000) (k : Nat) (hk : 2100000 < k) : oilcakeref11_Mend.f k l s = some (mendR l s) := by
  unfold oilcakeref11_Mend.f
  rw [given_f l hl hw s (by omega) k (by omega)]
  simp only [Option.bind_some]
  unfold mendR
  by_cases h : givenE l s = 0
  · rw [if_pos h, if_pos h]
    have := (mend_l l hl (codeOk_words' (givenE_ok h)) s hs k).1 0 [] (by omega) (by simp) ⟨List.Pairwise.nil, by simp [mendTo]⟩ (by omega)
    rw [show ((0 : Nat) : Int) = 0 from rfl] at this
    exact this
  · rw [if_neg h, if_neg h]

/-! ### The comparisons, and a code in new memory -/
theorem sameInts_l0 (l : List Int) (hl : l.length ≤ 9223372036854775807) : ∀ (k i : Nat), i ≤ l.length → l.length - i < k → oilcakeref01_SameInts.l0 k l l (i : Int) = some true
  | 0, _, _, h => by omega
  | k + 1, i, hi, h => by
    unfold oilcakeref01_SameInts.l0
    by_cases hlt : i < l.length
    · rw [if_pos (by omega), if_pos (by omega), if_pos (by omega), if_pos rfl, w64s i (by omega)]
      exact sameInts_l0 l hl k (i + 1) (by omega) (by omega)
    · rw [if_neg (by omega)]
theorem sameInts_f (l : List Int) (hl : l.length ≤ 9223372036854775807) (k : Nat) (hk : l.length < k) : oilcakeref01_SameInts.f k l l = some true := by
  unfold oilcakeref01_SameInts.f
  rw [if_pos rfl]
  exact sameInts_l0 l hl k 0 (by omega) (by omega)
theorem sameTexts_l0 (l : List ByteArray) (hl : l.length ≤ 9223372036854775807) : ∀ (k i : Nat), i ≤ l.length → l.length - i < k → oilcakeref11_SameTexts.l0 k l l (i : Int) = some true
  | 0, _, _, h => by omega
  | k + 1, i, hi, h => by
    unfold oilcakeref11_SameTexts.l0
    by_cases hlt : i < l.length
    · rw [if_pos (by omega), if_pos (by omega), if_pos (by omega), if_pos rfl, w64s i (by omega)]
      exact sameTexts_l0 l hl k (i + 1) (by omega) (by omega)
    · rw [if_neg (by omega)]
theorem sameTexts_f (l : List ByteArray) (hl : l.length ≤ 9223372036854775807) (k : Nat) (hk : l.length < k) : oilcakeref11_SameTexts.f k l l = some true := by
  unfold oilcakeref11_SameTexts.f
  rw [if_pos rfl]
  exact sameTexts_l0 l hl k 0 (by omega) (by omega)
theorem twin_f (l : List ByteArray) (hl : l.length ≤ 1000) : oilcakelaw11_twin.f l = some l := by
  unfold oilcakelaw11_twin.f
  simp only [Option.bind_some, List.length_nil, List.nil_append]
  rw [if_pos (by omega)]
end Go.Proofs.YtfnibmcenjiodaaGreatDoor.N
