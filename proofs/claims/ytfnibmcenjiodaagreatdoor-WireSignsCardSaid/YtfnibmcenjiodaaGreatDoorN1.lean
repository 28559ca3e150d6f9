/- The reference's own words, in plain Lean: what its printed functions tell. No statement of the seat is proved here. -/
import Derived.Test.YtfnibmcenjiodaaGreatDoorM6
import Derived.Test.YtfnibmcenjiodaaGreatDoorR2
import Derived.Sort.Walk0
namespace Go.Proofs.YtfnibmcenjiodaaGreatDoor.N
open Go.Sort Go.Shelf Go.RowKit Go.Proofs.YtfnibmcenjiodaaGreatDoorW.PrintWords Go.Proofs.YtfnibmcenjiodaaGreatDoorW.PrintLast Go.Proofs.YtfnibmcenjiodaaGreatDoorW.PrintMore
open Go.Proofs.YtfnibmcenjiodaaGreatDoor.M Go.Proofs.YtfnibmcenjiodaaGreatDoor.R

theorem w64 (z : Int) (h : -9223372036854775808 ≤ z ∧ z ≤ 9223372036854775807) : wrap64 z = z := by unfold wrap64; omega
theorem w64s (n : Nat) (h : n < 9223372036854775807) : wrap64 ((n : Int) + 1) = ((n + 1 : Nat) : Int) := by rw [w64 _ (by omega)]; omega
theorem rdOf_nat {α : Type} (d : α) (l : List α) (i : Nat) (h : i < l.length) : rdOf d l (i : Int) = l[i] := by simp [rdOf, h]
theorem rd_nat (l : List Int) (i : Nat) (h : i < l.length) : Go.Proofs.YtfnibmcenjiodaaGreatDoorW.PrintWords.rd l (i : Int) = l[i] := by show l.getD _ 0 = _; simp [h]

/-! ### Great -/
def greatB (l : List ByteArray) : Bool := decide (12 < l.length) || l.any fun x => decide (12 < x.size)
theorem great_l0 (l : List ByteArray) (hl : l.length ≤ 12) : ∀ (k i : Nat), l.length - i < k → i ≤ l.length → oilcakeref11_Great.l0 k l (l.length : Int) (i : Int) = some ((l.drop i).any fun x => decide (12 < x.size))
  | 0, _, h, _ => by omega
  | k + 1, i, h, hi => by
    unfold oilcakeref11_Great.l0
    by_cases hlt : i < l.length
    · rw [if_pos (by omega), if_pos (by omega), if_pos (by omega), rdOf_nat _ _ _ hlt, List.drop_eq_getElem_cons hlt, List.any_cons]
      by_cases hb : 12 < l[i].size
      · rw [if_pos (by omega)]; simp [hb]
      · rw [if_neg (by omega), w64s _ (by omega), great_l0 l hl k (i + 1) (by omega) (by omega)]; simp [hb]
    · rw [if_neg (by omega), List.drop_eq_nil_of_le (by omega)]; rfl
theorem great_f (l : List ByteArray) (k : Nat) (hk : 12 < k) : oilcakeref11_Great.f k l = some (greatB l) := by
  unfold oilcakeref11_Great.f greatB
  by_cases h : 12 < l.length
  · rw [if_pos (by omega)]; simp [h]
  · rw [if_neg (by omega)]
    have := great_l0 l (by omega) k 0 (by omega) (by omega)
    rw [show ((0 : Nat) : Int) = 0 from rfl] at this
    rw [this]; simp [h]

/-! ### within, signs, Code -/
theorem within_f (a b c : Int) : oilcakeref11_within.f a b c = some (decide (b ≤ a ∧ a ≤ c)) := by
  unfold oilcakeref11_within.f
  by_cases h : a ≥ b
  · rw [if_pos h]; have : b ≤ a := h; simp [this]
  · rw [if_neg h]; have : ¬ b ≤ a := h; simp [this]
theorem bt_nat (s : ByteArray) (i : Nat) (h : i < s.size) : bt s (i : Int) = ((s.data[i]'h).toNat : Int) := by
  unfold bt
  have h' : ((i : Int).toNat) < s.size := by omega
  rw [dif_pos h']
  rfl
theorem signs_l0 (s : ByteArray) (hs : s.size < 4611686018427387904) : ∀ (k i : Nat), s.size - i < k → i ≤ s.size → oilcakeref11_signs.l0 k s (i : Int) = some ((s.data.toList.drop i).all fun b => b == 45 || b == 46)
  | 0, _, h, _ => by omega
  | k + 1, i, h, hi => by
    unfold oilcakeref11_signs.l0
    by_cases hlt : i < s.size
    · have hlt' : i < s.data.toList.length := by rw [data_length]; exact hlt
      rw [if_pos (by omega), if_pos (by omega), bt_nat _ _ hlt, List.drop_eq_getElem_cons hlt', List.all_cons]
      have he : s.data.toList[i] = s.data[i]'hlt := by simp
      rw [he]
      have ih := signs_l0 s hs k (i + 1) (by omega) (by omega)
      by_cases h1 : s.data[i]'hlt = 45
      · rw [if_pos (by rw [h1]; rfl), w64s _ (by omega), ih, h1]; simp
      · have h1' : ¬ ((s.data[i]'hlt).toNat : Int) = 45 := by
          intro e
          apply h1
          apply UInt8.toNat_inj.1
          have : (45 : UInt8).toNat = 45 := rfl
          omega
        rw [if_neg h1']
        by_cases h2 : s.data[i]'hlt = 46
        · rw [if_pos (by rw [h2]; rfl), w64s _ (by omega), ih, h2]; simp
        · have h2' : ¬ ((s.data[i]'hlt).toNat : Int) = 46 := by
            intro e
            apply h2
            apply UInt8.toNat_inj.1
            have : (46 : UInt8).toNat = 46 := rfl
            omega
          rw [if_neg h2']
          simp [h1, h2]
    · rw [if_neg (by omega), List.drop_eq_nil_of_le (by rw [data_length]; omega)]; rfl
theorem signs_f (s : ByteArray) (hs : s.size < 4611686018427387904) (k : Nat) (hk : s.size < k) : oilcakeref11_signs.f k s = some (isSigns s) := by
  unfold oilcakeref11_signs.f
  have := signs_l0 s hs k 0 (by omega) (by omega)
  rw [show ((0 : Nat) : Int) = 0 from rfl] at this
  rw [this]; rfl

theorem wordOk_eq (x : ByteArray) : wordOk x = (decide (1 ≤ x.size ∧ x.size ≤ 6) && isSigns x) := by
  unfold wordOk
  congr 1
  rw [Bool.eq_iff_iff]
  simp [inB]
  omega
/-- The word at i is one, and no word before it is it. -/
def wordNew (l : List ByteArray) (i : Nat) : Bool := wordOk (rdOf ByteArray.empty l i) && (List.range i).all fun j => decide (rdOf ByteArray.empty l j ≠ rdOf ByteArray.empty l i)
theorem toList_inj {a b : ByteArray} : a.toList = b.toList ↔ a = b := by
  rw [Lib.toList_data, Lib.toList_data]
  constructor
  · intro h; exact ByteArray.ext (Array.toList_inj.1 h)
  · rintro rfl; rfl
theorem code_l (l : List ByteArray) (hl : l.length ≤ 12) (hw : ∀ x ∈ l, x.size ≤ 12) : ∀ k : Nat,
    (∀ i : Nat, i ≤ l.length → 50 * (l.length - i) + 20 < k → oilcakeref11_Code.l0 k (i : Int) l = some ((List.range (l.length - i)).all fun j => wordNew l (i + j))) ∧
    (∀ i j : Nat, i < l.length → j ≤ i → 50 * (l.length - i) + 1 + (i - j) < k → oilcakeref11_Code.l1 k (i : Int) (j : Int) l = some (((List.range (i - j)).all fun q => decide (rdOf ByteArray.empty l ((j + q : Nat) : Int) ≠ rdOf ByteArray.empty l i)) && (List.range (l.length - (i + 1))).all fun q => wordNew l (i + 1 + q)))
  | 0 => ⟨fun _ _ h => by omega, fun _ _ _ _ h => by omega⟩
  | k + 1 => by
    obtain ⟨ih0, ih1⟩ := code_l l hl hw k
    refine ⟨fun i hi hk => ?_, fun i j hi hj hk => ?_⟩
    · unfold oilcakeref11_Code.l0
      by_cases hlt : i < l.length
      · rw [if_pos (by omega), if_pos (by omega), within_f]
        have hmem : rdOf ByteArray.empty l (i : Int) ∈ l := by rw [rdOf_nat _ _ _ hlt]; exact List.getElem_mem hlt
        have hsz := hw _ hmem
        obtain ⟨m, hm⟩ : ∃ m, l.length - i = m + 1 := ⟨l.length - i - 1, by omega⟩
        have hsplit : ((List.range (l.length - i)).all fun j => wordNew l (i + j)) = (wordNew l i && (List.range (l.length - (i + 1))).all fun q => wordNew l (i + 1 + q)) := by
          rw [hm, List.range_succ_eq_map, List.all_cons, List.all_map, show l.length - (i + 1) = m by omega]
          have hfe : (fun q => wordNew l (i + 1 + q)) = (fun j => wordNew l (i + j)) ∘ Nat.succ := by
            funext q
            simp only [Function.comp]
            rw [show i + 1 + q = i + Nat.succ q by omega]
          rw [hfe]; rfl
        have hwn : wordNew l i = (wordOk (rdOf ByteArray.empty l i) && (List.range i).all fun j => decide (rdOf ByteArray.empty l j ≠ rdOf ByteArray.empty l i)) := rfl
        rw [hsplit, hwn, wordOk_eq]
        simp only [Option.bind_some]
        by_cases h1 : 1 ≤ (rdOf ByteArray.empty l (i : Int)).size ∧ (rdOf ByteArray.empty l (i : Int)).size ≤ 6
        · rw [if_pos (by simp; omega), signs_f _ (by omega) k (by omega)]
          simp only [Option.bind_some]
          obtain ⟨k', rfl⟩ : ∃ k', k = k' + 1 := ⟨k - 1, by omega⟩
          unfold oilcakeref11_Code.j1
          cases hs : isSigns (rdOf ByteArray.empty l (i : Int))
          · simp
          · rw [if_neg (by simp)]
            have := (code_l l hl hw k').2 i 0 hlt (by omega) (by omega)
            rw [show ((0 : Nat) : Int) = 0 from rfl] at this
            rw [this]
            simp [h1]
        · rw [if_neg (by simp; omega)]
          obtain ⟨k', rfl⟩ : ∃ k', k = k' + 1 := ⟨k - 1, by omega⟩
          unfold oilcakeref11_Code.j1
          rw [if_pos rfl]
          simp [h1]
      · rw [if_neg (by omega), show l.length - i = 0 by omega]; rfl
    · unfold oilcakeref11_Code.l1
      by_cases hlt : j < i
      · rw [if_pos (by omega), if_pos (by omega), if_pos (by omega), if_pos (by omega), if_pos (by omega)]
        obtain ⟨m, hm⟩ : ∃ m, i - j = m + 1 := ⟨i - j - 1, by omega⟩
        rw [hm, List.range_succ_eq_map, List.all_cons, List.all_map]
        by_cases he : rdOf ByteArray.empty l (j : Int) = rdOf ByteArray.empty l (i : Int)
        · rw [if_pos (by rw [he])]; simp [he]
        · rw [if_neg (fun h => he (toList_inj.1 h)), w64s _ (by omega), ih1 i (j + 1) hi (by omega) (by omega), show i - (j + 1) = m by omega]
          simp only [Nat.add_zero, ne_eq, he, not_false_eq_true, decide_true, Bool.true_and]
          have hfe : (fun q => decide ¬rdOf ByteArray.empty l ((j + 1 + q : Nat) : Int) = rdOf ByteArray.empty l (i : Int)) = (fun q => decide ¬rdOf ByteArray.empty l ((j + q : Nat) : Int) = rdOf ByteArray.empty l (i : Int)) ∘ Nat.succ := by
            funext q
            simp only [Function.comp]
            rw [show j + 1 + q = j + Nat.succ q by omega]
          rw [hfe]
      · rw [if_neg (by omega), w64s _ (by omega), ih0 (i + 1) (by omega) (by omega), show i - j = 0 by omega]
        simp
theorem code_f (l : List ByteArray) (hl : l.length ≤ 12) (hw : ∀ x ∈ l, x.size ≤ 12) (k : Nat) (hk : 700 < k) : oilcakeref11_Code.f k l = some (decide (1 ≤ l.length ∧ l.length ≤ 7) && (List.range l.length).all fun j => wordNew l j) := by
  unfold oilcakeref11_Code.f
  rw [within_f]
  simp only [Option.bind_some]
  by_cases h : 1 ≤ l.length ∧ l.length ≤ 7
  · rw [if_pos (by simp; omega)]
    have := (code_l l hl hw k).1 0 (by omega) (by omega)
    rw [show ((0 : Nat) : Int) = 0 from rfl] at this
    rw [this]
    simp [h]
  · rw [if_neg (by simp; omega)]
    simp [h]

/-! ### Sorted and compacted -/
theorem compact_length {α : Type} [Inhabited α] [DecidableEq α] (zs : List α) : (Lib.compact zs).length = zs.length ↔ ∀ j, j + 1 < zs.length → zs[j + 1]! ≠ zs[j]! := by
  have hle : ∀ m, (Lib.compactUpTo zs.toArray m).length ≤ m := fun m => by
    have := List.length_filter_le (Lib.keeps zs.toArray) (List.range m)
    simpa [Lib.compactUpTo] using this
  have key : ∀ m, (Lib.compactUpTo zs.toArray m).length = m ↔ ∀ j, j < m → Lib.keeps zs.toArray j = true := by
    intro m
    have : (Lib.compactUpTo zs.toArray m).length = ((List.range m).filter (Lib.keeps zs.toArray)).length := by simp [Lib.compactUpTo]
    rw [this]
    constructor
    · intro h j hj
      have h2 := (List.length_filter_eq_length_iff).1 (h.trans (by simp : m = (List.range m).length))
      exact h2 j (List.mem_range.2 hj)
    · intro h
      rw [List.filter_eq_self.2 (fun j hj => h j (List.mem_range.1 hj))]; simp
  unfold Lib.compact
  rw [key]
  constructor
  · intro h j hj
    have := h (j + 1) hj
    simp [Lib.keeps] at this
    simpa using this
  · intro h j hj
    cases j with
    | zero => simp [Lib.keeps]
    | succ j => have := h j hj; simp [Lib.keeps]; simpa using this
theorem sorted_nodup (zs : List (List UInt8)) (hs : zs.Pairwise fun a b => a ≤ b) : (∀ j, j + 1 < zs.length → zs[j + 1]! ≠ zs[j]!) ↔ zs.Nodup := by
  induction zs with
  | nil => simp
  | cons a r ih =>
    have ⟨ha, hr⟩ := List.pairwise_cons.1 hs
    rw [List.nodup_cons, ← ih hr]
    constructor
    · intro h
      refine ⟨?_, fun j hj => ?_⟩
      · intro hmem
        cases r with
        | nil => simp at hmem
        | cons b r =>
          have h0 := h 0 (by simp)
          simp at h0
          have hab := ha b (by simp)
          have hba : b ≤ a := by
            rcases List.mem_cons.1 hmem with e | hm
            · rw [e]; exact List.le_refl _
            · exact (List.pairwise_cons.1 hr).1 a hm
          exact h0 (List.le_antisymm hba hab)
      · have := h (j + 1) (by simp; omega)
        simpa using this
    · rintro ⟨hn, h⟩ j hj
      cases j with
      | zero =>
        cases r with
        | nil => simp at hj
        | cons b r => simp; rintro rfl; exact hn (by simp)
      | succ j => have := h j (by simpa using hj); simpa using this
theorem sortB_pairwise (ss : List ByteArray) : (sortB ss).Pairwise fun a b => a ≤ b := by
  have tr : ∀ a b c : List UInt8, decide (a ≤ b) = true → decide (b ≤ c) = true → decide (a ≤ c) = true := fun a b c h1 h2 => by simp only [decide_eq_true_eq] at *; exact List.le_trans h1 h2
  have tot : ∀ a b : List UInt8, (decide (a ≤ b) || decide (b ≤ a)) = true := fun a b => by simp only [Bool.or_eq_true, decide_eq_true_eq]; exact List.le_total a b
  exact (List.pairwise_mergeSort tr tot _).imp fun h => by simpa using h
theorem sortB_perm (ss : List ByteArray) : (sortB ss).Perm (ss.map (·.data.toList)) := List.mergeSort_perm _ _
theorem data_inj {a b : ByteArray} (h : a.data.toList = b.data.toList) : a = b := ByteArray.ext (Array.toList_inj.1 h)
theorem distinct_iff (l : List ByteArray) : ((Lib.compact (sortB l)).length == l.length) = true ↔ l.Nodup := by
  have hlen : (sortB l).length = l.length := by simp [sortB]
  rw [beq_iff_eq, ← hlen, compact_length, sorted_nodup _ (sortB_pairwise l), (sortB_perm l).nodup_iff]
  constructor
  · intro h; exact List.Pairwise.of_map (fun x : ByteArray => x.data.toList) (fun a b hab e => hab (by rw [e])) h
  · intro h; exact h.map _ (fun a b hab e => hab (data_inj e))
theorem wordNew_all (l : List ByteArray) : ((List.range l.length).all fun j => wordNew l j) = true ↔ l.all wordOk = true ∧ l.Nodup := by
  rw [List.all_eq_true, List.all_eq_true, List.nodup_iff_pairwise_ne, List.pairwise_iff_getElem]
  constructor
  · intro h
    refine ⟨fun x hx => ?_, fun i j hi hj hij => ?_⟩
    · obtain ⟨i, hi, rfl⟩ := List.mem_iff_getElem.1 hx
      have := h i (List.mem_range.2 hi)
      unfold wordNew at this
      rw [Bool.and_eq_true, rdOf_nat _ _ _ hi] at this
      exact this.1
    · have := h j (List.mem_range.2 hj)
      unfold wordNew at this
      rw [Bool.and_eq_true, List.all_eq_true] at this
      have := this.2 i (List.mem_range.2 hij)
      rw [rdOf_nat _ _ _ hi, rdOf_nat _ _ _ hj] at this
      simpa using this
  · rintro ⟨h1, h2⟩ j hj
    have hj := List.mem_range.1 hj
    unfold wordNew
    rw [Bool.and_eq_true, List.all_eq_true, rdOf_nat _ _ _ hj]
    refine ⟨h1 _ (List.getElem_mem hj), fun i hi => ?_⟩
    have hi := List.mem_range.1 hi
    rw [rdOf_nat _ _ _ (by omega)]
    simpa using h2 i j (by omega) hj hi
theorem codeOk_f (l : List ByteArray) (hl : l.length ≤ 12) (hw : ∀ x ∈ l, x.size ≤ 12) (k : Nat) (hk : 700 < k) : oilcakeref11_Code.f k l = some (codeOk l) := by
  rw [code_f l hl hw k hk]
  congr 1
  unfold codeOk
  rw [Bool.and_assoc]
  congr 1
  · rw [Bool.eq_iff_iff]; simp [inB]; omega
  · rw [Bool.eq_iff_iff, wordNew_all, Bool.and_eq_true, distinct_iff]
end Go.Proofs.YtfnibmcenjiodaaGreatDoor.N
